/- What the functions' conditions say, proved. The contracts of the functions. The layer: Go code as conditions, and that they are sound. No condition. -/
import Derived.Test.YtpiedfeneggkmaaGreatDoorT06
import Derived.LoopN
set_option linter.all false
set_option maxRecDepth 100000
section
open Go Go.AL Go.Pd
namespace Go.AL.Seat
theorem AJ (n:Nat) (t:Trm) (e:Envt) (ht:Wf (.st .term) t) (he:Wf (.st .env) e) (hk:t.kind=6∨t.kind=11∨t.kind=12∨t.kind=13∨t.kind=15) (hz:szT t<=n+1) (hf:allT ag t=true) (hv:e.values.length+4096 *szT t<=100000000) :
  List.length t.shapes<=(1000000:Nat)/\if (!decide ((ae e.types t.pos t.shapes).2.err=(0:Int)))=true then True/\(0:Int)=(aG (aa n) t e).1.kind/\[]=(aG (aa n) t e).1.pkg/\[]=(aG (aa n) t e).1.name/\(aG (aa n) t e).1.names=[]/\(aG (aa n) t e).1.parts=[]/\(ae e.types t.pos t.shapes).2.err=(aG (aa n) t e).2.err/\(ae e.types t.pos t.shapes).2.pos=(aG (aa n) t e).2.pos/\True else inR IntKind.i64 ((↑(List.length (ae e.types t.pos t.shapes).1):Int) - (1:Int))/\if decide (t.kind=(6:Int))=true then (∃(x:Nat × Envt),(x.1<=List.length t.names/\List.length x.2.values=List.length e.values+x.1/\bO x.2 (eo (List.drop x.1 t.names) (List.drop x.1 (ae e.types t.pos t.shapes).1))=bO e (eo t.names (ae e.types t.pos t.shapes).1))/\(0:Int)=(↑x.1:Int)/\t=t/\e=e/\(ae e.types t.pos t.shapes).1=(ae e.types t.pos t.shapes).1/\false=false/\(↑(List.length (ae e.types t.pos t.shapes).1):Int) - (1:Int)=(↑(List.length (ae e.types t.pos t.shapes).1):Int) - (1:Int)/\t.kind=t.kind/\true=true/\t.names=t.names/\(↑(List.length t.names):Int)=(↑(List.length t.names):Int)/\e=x.2/\t=t/\(0:Int)=(0:Int)/\aF UInt8=aF UInt8/\aF UInt8=aF UInt8/\(0:Int)=(0:Int)/\(0:Int)=(0:Int)/\List.length (ae e.types t.pos t.shapes).1=List.length (ae e.types t.pos t.shapes).1/\(ae e.types t.pos t.shapes).2.err=(ae e.types t.pos t.shapes).2.err/\(ae e.types t.pos t.shapes).2.pos=(ae e.types t.pos t.shapes).2.pos/\True)/\∀(x:Nat × Envt),x.1<=List.length t.names/\List.length x.2.values=List.length e.values+x.1/\bO x.2 (eo (List.drop x.1 t.names) (List.drop x.1 (ae e.types t.pos t.shapes).1))=bO e (eo t.names (ae e.types t.pos t.shapes).1)→if decide ((↑x.1:Int) < (↑(List.length t.names):Int))=true then ((0:Int)<=(↑x.1:Int)/\(↑x.1:Int) < (↑(List.length t.names):Int))/\((0:Int)<=(↑x.1:Int)/\(↑x.1:Int) < (↑(List.length (ae e.types t.pos t.shapes).1):Int))/\(List.length x.2.values<=(1000000000:Nat)/\List.length [{pkg:=[],name:=List.getD t.names (Int.toNat (↑x.1:Int)) (dfl Ty.str),shape:=AL.Shape.mk ((List.getD (ae e.types t.pos t.shapes).1 (Int.toNat (↑x.1:Int)) (dfl (Ty.st SN.shape))).kind) ((List.getD (ae e.types t.pos t.shapes).1 (Int.toNat (↑x.1:Int)) (dfl (Ty.st SN.shape))).pkg) ((List.getD (ae e.types t.pos t.shapes).1 (Int.toNat (↑x.1:Int)) (dfl (Ty.st SN.shape))).name) ((List.getD (ae e.types t.pos t.shapes).1 (Int.toNat (↑x.1:Int)) (dfl (Ty.st SN.shape))).names) ((List.getD (ae e.types t.pos t.shapes).1 (Int.toNat (↑x.1:Int)) (dfl (Ty.st SN.shape))).parts):Bndg}]<=(1000:Nat))/\inR IntKind.i64 ((↑x.1:Int)+(1:Int))/\∃(y:Nat × Envt),(y.1<=List.length t.names/\List.length y.2.values=List.length e.values+y.1/\bO y.2 (eo (List.drop y.1 t.names) (List.drop y.1 (ae e.types t.pos t.shapes).1))=bO e (eo t.names (ae e.types t.pos t.shapes).1))/\List.length t.names - y.1 < List.length t.names - x.1/\(↑x.1:Int)+(1:Int)=(↑y.1:Int)/\t=t/\e=e/\(ae e.types t.pos t.shapes).1=(ae e.types t.pos t.shapes).1/\false=false/\(↑(List.length (ae e.types t.pos t.shapes).1):Int) - (1:Int)=(↑(List.length (ae e.types t.pos t.shapes).1):Int) - (1:Int)/\t.kind=t.kind/\true=true/\t.names=t.names/\(↑(List.length t.names):Int)=(↑(List.length t.names):Int)
  /\bO x.2 [{pkg:=[],name:=List.getD t.names (Int.toNat (↑x.1:Int)) (dfl Ty.str),shape:=AL.Shape.mk ((List.getD (ae e.types t.pos t.shapes).1 (Int.toNat (↑x.1:Int)) (dfl (Ty.st SN.shape))).kind) ((List.getD (ae e.types t.pos t.shapes).1 (Int.toNat (↑x.1:Int)) (dfl (Ty.st SN.shape))).pkg) ((List.getD (ae e.types t.pos t.shapes).1 (Int.toNat (↑x.1:Int)) (dfl (Ty.st SN.shape))).name) ((List.getD (ae e.types t.pos t.shapes).1 (Int.toNat (↑x.1:Int)) (dfl (Ty.st SN.shape))).names) ((List.getD (ae e.types t.pos t.shapes).1 (Int.toNat (↑x.1:Int)) (dfl (Ty.st SN.shape))).parts):Bndg}]=y.2/\t=t/\(0:Int)=(0:Int)/\aF UInt8=aF UInt8/\aF UInt8=aF UInt8/\(0:Int)=(0:Int)/\(0:Int)=(0:Int)/\List.length (ae e.types t.pos t.shapes).1=List.length (ae e.types t.pos t.shapes).1/\(ae e.types t.pos t.shapes).2.err=(ae e.types t.pos t.shapes).2.err/\(ae e.types t.pos t.shapes).2.pos=(ae e.types t.pos t.shapes).2.pos/\True else ((0:Int)<=(0:Int)/\(0:Int) < (↑(List.length t.parts):Int))/\(szT (List.getD t.parts (Int.toNat (0:Int)) (dfl (Ty.st SN.term)))<=n/\allT ag (List.getD t.parts (Int.toNat (0:Int)) (dfl (Ty.st SN.term)))=true/\List.length x.2.values+(4096:Nat) *szT (List.getD t.parts (Int.toNat (0:Int)) (dfl (Ty.st SN.term)))<=(100000000:Nat))/\(List.length (ae e.types t.pos t.shapes).1=List.length (ae e.types t.pos t.shapes).1/\(List.length (ae e.types t.pos t.shapes).1+List.length [(aa n (List.getD t.parts (Int.toNat (0:Int)) (dfl (Ty.st SN.term))) x.2).1]) *(88:Nat)<=(140737488355328:Nat))/\True/\(8:Int)=(aG (aa n) t e).1.kind/\[]=(aG (aa n) t e).1.pkg/\[]=(aG (aa n) t e).1.name/\(aG (aa n) t e).1.names=[]/\(ae e.types t.pos t.shapes).1++[(aa n (List.getD t.parts (Int.toNat (0:Int)) (dfl (Ty.st SN.term))) x.2).1]=(aG (aa n) t e).1.parts/\(aa n (List.getD t.parts (Int.toNat (0:Int)) (dfl (Ty.st SN.term))) x.2).2.err=(aG (aa n) t e).2.err/\(aa n (List.getD t.parts (Int.toNat (0:Int)) (dfl (Ty.st SN.term))) x.2).2.pos=(aG (aa n) t e).2.pos/\True else if decide (t.kind=(11:Int))=true then (∃(x:Nat),(x<=List.length t.parts/\cC (aa n) e (List.getD (ae e.types t.pos t.shapes).1 (0:Nat) aq) (List.drop x t.parts)=cC (aa n) e (List.getD (ae e.types t.pos t.shapes).1 (0:Nat) aq) t.parts)/\(0:Int)=(↑x:Int)/\t=t/\e=e/\(ae e.types t.pos t.shapes).1=(ae e.types t.pos t.shapes).1/\false=false/\(↑(List.length (ae e.types t.pos t.shapes).1):Int) - (1:Int)=(↑(List.length (ae e.types t.pos t.shapes).1):Int) - (1:Int)/\t.kind=t.kind/\false=false/\true=true/\t.parts=t.parts/\(↑(List.length t.parts):Int)=(↑(List.length t.parts):Int)/\t=t/\e=e/\(0:Int)=(0:Int)/\aF UInt8=aF UInt8/\aF UInt8=aF UInt8/\(0:Int)=(0:Int)/\(0:Int)=(0:Int)/\List.length (ae e.types t.pos t.shapes).1=List.length (ae e.types t.pos t.shapes).1/\(ae e.types t.pos t.shapes).2.err=(ae e.types t.pos t.shapes).2.err/\(ae e.types t.pos t.shapes).2.pos=(ae e.types t.pos t.shapes).2.pos/\True)/\∀(x:Nat),x<=List.length t.parts/\cC (aa n) e (List.getD (ae e.types t.pos t.shapes).1 (0:Nat) aq) (List.drop x t.parts)=cC (aa n) e (List.getD (ae e.types t.pos t.shapes).1 (0:Nat) aq) t.parts→if decide ((↑x:Int) < (↑(List.length t.parts):Int))=true then ((0:Int)<=(↑x:Int)/\(↑x:Int) < (↑(List.length t.parts):Int))/\((0:Int)<=(0:Int)/\(0:Int) < (↑(List.length (ae e.types t.pos t.shapes).1):Int))/\(szT (List.getD t.parts (Int.toNat (↑x:Int)) (dfl (Ty.st SN.term)))<=n
  /\allT ag (List.getD t.parts (Int.toNat (↑x:Int)) (dfl (Ty.st SN.term)))=true/\List.length e.values+(4096:Nat) *szT (List.getD t.parts (Int.toNat (↑x:Int)) (dfl (Ty.st SN.term)))<=(100000000:Nat))/\if (!decide ((az (aa n) (List.getD t.parts (Int.toNat (↑x:Int)) (dfl (Ty.st SN.term))) (List.getD (ae e.types t.pos t.shapes).1 (Int.toNat (0:Int)) (dfl (Ty.st SN.shape))) e).err=(0:Int)))=true then ((0:Int)<=(0:Int)/\(0:Int) < (↑(List.length (ae e.types t.pos t.shapes).1):Int))/\True/\List.getD (ae e.types t.pos t.shapes).1 (Int.toNat (0:Int)) (dfl (Ty.st SN.shape))=(aG (aa n) t e).1/\(az (aa n) (List.getD t.parts (Int.toNat (↑x:Int)) (dfl (Ty.st SN.term))) (List.getD (ae e.types t.pos t.shapes).1 (Int.toNat (0:Int)) (dfl (Ty.st SN.shape))) e).err=(aG (aa n) t e).2.err/\(az (aa n) (List.getD t.parts (Int.toNat (↑x:Int)) (dfl (Ty.st SN.term))) (List.getD (ae e.types t.pos t.shapes).1 (Int.toNat (0:Int)) (dfl (Ty.st SN.shape))) e).pos=(aG (aa n) t e).2.pos/\True else inR IntKind.i64 ((↑x:Int)+(1:Int))/\∃(y:Nat),(y<=List.length t.parts/\cC (aa n) e (List.getD (ae e.types t.pos t.shapes).1 (0:Nat) aq) (List.drop y t.parts)=cC (aa n) e (List.getD (ae e.types t.pos t.shapes).1 (0:Nat) aq) t.parts)/\List.length t.parts - y < List.length t.parts - x/\(↑x:Int)+(1:Int)=(↑y:Int)/\t=t/\e=e/\(ae e.types t.pos t.shapes).1=(ae e.types t.pos t.shapes).1/\false=false/\(↑(List.length (ae e.types t.pos t.shapes).1):Int) - (1:Int)=(↑(List.length (ae e.types t.pos t.shapes).1):Int) - (1:Int)/\t.kind=t.kind/\false=false/\true=true/\t.parts=t.parts/\(↑(List.length t.parts):Int)=(↑(List.length t.parts):Int)/\t=t/\e=e/\(0:Int)=(0:Int)/\aF UInt8=aF UInt8/\aF UInt8=aF UInt8/\(0:Int)=(0:Int)/\(0:Int)=(0:Int)/\List.length (ae e.types t.pos t.shapes).1=List.length (ae e.types t.pos t.shapes).1/\(ae e.types t.pos t.shapes).2.err=(ae e.types t.pos t.shapes).2.err/\(ae e.types t.pos t.shapes).2.pos=(ae e.types t.pos t.shapes).2.pos/\True else True/\(5:Int)=(aG (aa n) t e).1.kind/\[]=(aG (aa n) t e).1.pkg/\[]=(aG (aa n) t e).1.name/\(aG (aa n) t e).1.names=[]/\(ae e.types t.pos t.shapes).1=(aG (aa n) t e).1.parts/\(0:Int)=(aG (aa n) t e).2.err/\(0:Int)=(aG (aa n) t e).2.pos/\True else if decide (t.kind=(15:Int))=true then ((0:Int)<=(0:Int)/\(0:Int) < (↑(List.length (ae e.types t.pos t.shapes).1):Int))/\((0:Int)<=(0:Int)/\(0:Int) < (↑(List.length t.parts):Int))/\((0:Int)<=(0:Int)/\(0:Int) < (↑(List.length (ae e.types t.pos t.shapes).1):Int))/\(szT (List.getD t.parts (Int.toNat (0:Int)) (dfl (Ty.st SN.term)))<=n/\allT ag (List.getD t.parts (Int.toNat (0:Int)) (dfl (Ty.st SN.term)))=true/\List.length e.values+(4096:Nat) *szT (List.getD t.parts (Int.toNat (0:Int)) (dfl (Ty.st SN.term)))<=(100000000:Nat))/\True/\List.getD (ae e.types t.pos t.shapes).1 (Int.toNat (0:Int)) (dfl (Ty.st SN.shape))=(aG (aa n) t e).1/\(az (aa n) (List.getD t.parts (Int.toNat (0:Int)) (dfl (Ty.st SN.term))) (List.getD (ae e.types t.pos t.shapes).1 (Int.toNat (0:Int)) (dfl (Ty.st SN.shape))) e).err=(aG (aa n) t e).2.err/\(az (aa n) (List.getD t.parts (Int.toNat (0:Int)) (dfl (Ty.st SN.term))) (List.getD (ae e.types t.pos t.shapes).1 (Int.toNat (0:Int)) (dfl (Ty.st SN.shape))) e).pos=(aG (aa n) t e).2.pos/\True else if decide (t.kind=(12:Int))=true then ((0:Int)<=(0:Int)/\(0:Int) < (↑(List.length t.parts):Int))
  /\(szT (List.getD t.parts (Int.toNat (0:Int)) (dfl (Ty.st SN.term)))<=n/\allT ag (List.getD t.parts (Int.toNat (0:Int)) (dfl (Ty.st SN.term)))=true/\List.length e.values+(4096:Nat) *szT (List.getD t.parts (Int.toNat (0:Int)) (dfl (Ty.st SN.term)))<=(100000000:Nat))/\if (!decide ((az (aa n) (List.getD t.parts (Int.toNat (0:Int)) (dfl (Ty.st SN.term))) (ofK (2:Int)) e).err=(0:Int)))=true then ((0:Int)<=(0:Int)/\(0:Int) < (↑(List.length (ae e.types t.pos t.shapes).1):Int))/\True/\List.getD (ae e.types t.pos t.shapes).1 (Int.toNat (0:Int)) (dfl (Ty.st SN.shape))=(aG (aa n) t e).1/\(az (aa n) (List.getD t.parts (Int.toNat (0:Int)) (dfl (Ty.st SN.term))) (ofK (2:Int)) e).err=(aG (aa n) t e).2.err/\(az (aa n) (List.getD t.parts (Int.toNat (0:Int)) (dfl (Ty.st SN.term))) (ofK (2:Int)) e).pos=(aG (aa n) t e).2.pos/\True else ((0:Int)<=(1:Int)/\(1:Int) < (↑(List.length t.parts):Int))/\((0:Int)<=(0:Int)/\(0:Int) < (↑(List.length (ae e.types t.pos t.shapes).1):Int))/\(szT (List.getD t.parts (Int.toNat (1:Int)) (dfl (Ty.st SN.term)))<=n/\allT ag (List.getD t.parts (Int.toNat (1:Int)) (dfl (Ty.st SN.term)))=true/\List.length e.values+(4096:Nat) *szT (List.getD t.parts (Int.toNat (1:Int)) (dfl (Ty.st SN.term)))<=(100000000:Nat))/\if (!decide ((az (aa n) (List.getD t.parts (Int.toNat (1:Int)) (dfl (Ty.st SN.term))) (List.getD (ae e.types t.pos t.shapes).1 (Int.toNat (0:Int)) (dfl (Ty.st SN.shape))) e).err=(0:Int)))=true then ((0:Int)<=(0:Int)/\(0:Int) < (↑(List.length (ae e.types t.pos t.shapes).1):Int))/\True/\List.getD (ae e.types t.pos t.shapes).1 (Int.toNat (0:Int)) (dfl (Ty.st SN.shape))=(aG (aa n) t e).1/\(az (aa n) (List.getD t.parts (Int.toNat (1:Int)) (dfl (Ty.st SN.term))) (List.getD (ae e.types t.pos t.shapes).1 (Int.toNat (0:Int)) (dfl (Ty.st SN.shape))) e).err=(aG (aa n) t e).2.err/\(az (aa n) (List.getD t.parts (Int.toNat (1:Int)) (dfl (Ty.st SN.term))) (List.getD (ae e.types t.pos t.shapes).1 (Int.toNat (0:Int)) (dfl (Ty.st SN.shape))) e).pos=(aG (aa n) t e).2.pos/\True else ((0:Int)<=(0:Int)/\(0:Int) < (↑(List.length (ae e.types t.pos t.shapes).1):Int))/\((0:Int)<=(2:Int)/\(2:Int) < (↑(List.length t.parts):Int))/\((0:Int)<=(0:Int)/\(0:Int) < (↑(List.length (ae e.types t.pos t.shapes).1):Int))/\(szT (List.getD t.parts (Int.toNat (2:Int)) (dfl (Ty.st SN.term)))<=n/\allT ag (List.getD t.parts (Int.toNat (2:Int)) (dfl (Ty.st SN.term)))=true/\List.length e.values+(4096:Nat) *szT (List.getD t.parts (Int.toNat (2:Int)) (dfl (Ty.st SN.term)))<=(100000000:Nat))/\True/\List.getD (ae e.types t.pos t.shapes).1 (Int.toNat (0:Int)) (dfl (Ty.st SN.shape))=(aG (aa n) t e).1/\(az (aa n) (List.getD t.parts (Int.toNat (2:Int)) (dfl (Ty.st SN.term))) (List.getD (ae e.types t.pos t.shapes).1 (Int.toNat (0:Int)) (dfl (Ty.st SN.shape))) e).err=(aG (aa n) t e).2.err/\(az (aa n) (List.getD t.parts (Int.toNat (2:Int)) (dfl (Ty.st SN.term))) (List.getD (ae e.types t.pos t.shapes).1 (Int.toNat (0:Int)) (dfl (Ty.st SN.shape))) e).pos=(aG (aa n) t e).2.pos/\True else ((0:Int)<=(0:Int)/\(0:Int) < (↑(List.length t.parts):Int))/\((0:Int)<=(0:Int)/\(0:Int)<=(↑(List.length (ae e.types t.pos t.shapes).1):Int) - (1:Int)/\(↑(List.length (ae e.types t.pos t.shapes).1):Int) - (1:Int)<=(↑(List.length (ae e.types t.pos t.shapes).1):Int))/\(szT (List.getD t.parts (Int.toNat (0:Int)) (dfl (Ty.st SN.term)))<=n/\allT ag (List.getD t.parts (Int.toNat (0:Int)) (dfl (Ty.st SN.term)))=true
  /\List.length e.values+(4096:Nat) *szT (List.getD t.parts (Int.toNat (0:Int)) (dfl (Ty.st SN.term)))<=(100000000:Nat))/\if (!decide ((az (aa n) (List.getD t.parts (Int.toNat (0:Int)) (dfl (Ty.st SN.term))) {kind:=(7:Int),pkg:=[],name:=[],names:=t.names,parts:=List.drop (Int.toNat (0:Int)) (List.take (Int.toNat ((↑(List.length (ae e.types t.pos t.shapes).1):Int) - (1:Int))) (ae e.types t.pos t.shapes).1):Shape} e).err=(0:Int)))=true then ((0:Int)<=(↑(List.length (ae e.types t.pos t.shapes).1):Int) - (1:Int)/\(↑(List.length (ae e.types t.pos t.shapes).1):Int) - (1:Int) < (↑(List.length (ae e.types t.pos t.shapes).1):Int))/\True/\List.getD (ae e.types t.pos t.shapes).1 (Int.toNat ((↑(List.length (ae e.types t.pos t.shapes).1):Int) - (1:Int))) (dfl (Ty.st SN.shape))=(aG (aa n) t e).1/\(az (aa n) (List.getD t.parts (Int.toNat (0:Int)) (dfl (Ty.st SN.term))) {kind:=(7:Int),pkg:=[],name:=[],names:=t.names,parts:=List.drop (Int.toNat (0:Int)) (List.take (Int.toNat ((↑(List.length (ae e.types t.pos t.shapes).1):Int) - (1:Int))) (ae e.types t.pos t.shapes).1):Shape} e).err=(aG (aa n) t e).2.err/\(az (aa n) (List.getD t.parts (Int.toNat (0:Int)) (dfl (Ty.st SN.term))) {kind:=(7:Int),pkg:=[],name:=[],names:=t.names,parts:=List.drop (Int.toNat (0:Int)) (List.take (Int.toNat ((↑(List.length (ae e.types t.pos t.shapes).1):Int) - (1:Int))) (ae e.types t.pos t.shapes).1):Shape} e).pos=(aG (aa n) t e).2.pos/\True else ((0:Int)<=(1:Int)/\(1:Int)<=(↑(List.length t.parts):Int)/\(↑(List.length t.parts):Int)<=(↑(List.length t.parts):Int))/\(∃(x:Nat × Flt),(x.1+(1:Nat)<=List.length t.parts/\x.2.err=(0:Int)/\x.2.pos=(0:Int)/\fc (aa n) e (List.getD (ae e.types t.pos t.shapes).1 (List.length (ae e.types t.pos t.shapes).1 - (1:Nat)) aq) (List.drop (x.1+(1:Nat)) t.parts) (List.drop x.1 t.vars) (List.drop x.1 (ae e.types t.pos t.shapes).1)=fc (aa n) e (List.getD (ae e.types t.pos t.shapes).1 (List.length (ae e.types t.pos t.shapes).1 - (1:Nat)) aq) (List.drop (1:Nat) t.parts) t.vars (ae e.types t.pos t.shapes).1)/\(0:Int)=(↑x.1:Int)/\t=t/\e=e/\(ae e.types t.pos t.shapes).1=(ae e.types t.pos t.shapes).1/\false=false/\(↑(List.length (ae e.types t.pos t.shapes).1):Int) - (1:Int)=(↑(List.length (ae e.types t.pos t.shapes).1):Int) - (1:Int)/\t.kind=t.kind/\false=false/\false=false/\false=false/\false=false/\false=false/\List.drop (Int.toNat (1:Int)) (List.take (Int.toNat (↑(List.length t.parts):Int)) t.parts)=List.drop (Int.toNat (1:Int)) (List.take (Int.toNat (↑(List.length t.parts):Int)) t.parts)/\(↑(List.length (List.drop (Int.toNat (1:Int)) (List.take (Int.toNat (↑(List.length t.parts):Int)) t.parts))):Int)=(↑(List.length (List.drop (Int.toNat (1:Int)) (List.take (Int.toNat (↑(List.length t.parts):Int)) t.parts))):Int)/\(ae e.types t.pos t.shapes).2.err=x.2.err/\(ae e.types t.pos t.shapes).2.pos=x.2.pos/\t=t/\e=e/\(0:Int)=(0:Int)/\aF UInt8=aF UInt8/\aF UInt8=aF UInt8/\(0:Int)=(0:Int)/\(0:Int)=(0:Int)/\List.length (ae e.types t.pos t.shapes).1=List.length (ae e.types t.pos t.shapes).1
  /\(az (aa n) (List.getD t.parts (Int.toNat (0:Int)) (dfl (Ty.st SN.term))) {kind:=(7:Int),pkg:=[],name:=[],names:=t.names,parts:=List.drop (Int.toNat (0:Int)) (List.take (Int.toNat ((↑(List.length (ae e.types t.pos t.shapes).1):Int) - (1:Int))) (ae e.types t.pos t.shapes).1):Shape} e).err=(az (aa n) (List.getD t.parts (Int.toNat (0:Int)) (dfl (Ty.st SN.term))) {kind:=(7:Int),pkg:=[],name:=[],names:=t.names,parts:=List.drop (Int.toNat (0:Int)) (List.take (Int.toNat ((↑(List.length (ae e.types t.pos t.shapes).1):Int) - (1:Int))) (ae e.types t.pos t.shapes).1):Shape} e).err/\(az (aa n) (List.getD t.parts (Int.toNat (0:Int)) (dfl (Ty.st SN.term))) {kind:=(7:Int),pkg:=[],name:=[],names:=t.names,parts:=List.drop (Int.toNat (0:Int)) (List.take (Int.toNat ((↑(List.length (ae e.types t.pos t.shapes).1):Int) - (1:Int))) (ae e.types t.pos t.shapes).1):Shape} e).pos=(az (aa n) (List.getD t.parts (Int.toNat (0:Int)) (dfl (Ty.st SN.term))) {kind:=(7:Int),pkg:=[],name:=[],names:=t.names,parts:=List.drop (Int.toNat (0:Int)) (List.take (Int.toNat ((↑(List.length (ae e.types t.pos t.shapes).1):Int) - (1:Int))) (ae e.types t.pos t.shapes).1):Shape} e).pos/\True)/\∀(x:Nat × Flt),x.1+(1:Nat)<=List.length t.parts/\x.2.err=(0:Int)/\x.2.pos=(0:Int)/\fc (aa n) e (List.getD (ae e.types t.pos t.shapes).1 (List.length (ae e.types t.pos t.shapes).1 - (1:Nat)) aq) (List.drop (x.1+(1:Nat)) t.parts) (List.drop x.1 t.vars) (List.drop x.1 (ae e.types t.pos t.shapes).1)=fc (aa n) e (List.getD (ae e.types t.pos t.shapes).1 (List.length (ae e.types t.pos t.shapes).1 - (1:Nat)) aq) (List.drop (1:Nat) t.parts) t.vars (ae e.types t.pos t.shapes).1→if decide ((↑x.1:Int) < (↑(List.length (List.drop (Int.toNat (1:Int)) (List.take (Int.toNat (↑(List.length t.parts):Int)) t.parts))):Int))=true then ((0:Int)<=(↑x.1:Int)/\(↑x.1:Int) < (↑(List.length (List.drop (Int.toNat (1:Int)) (List.take (Int.toNat (↑(List.length t.parts):Int)) t.parts))):Int))/\((0:Int)<=(↑(List.length (ae e.types t.pos t.shapes).1):Int) - (1:Int)/\(↑(List.length (ae e.types t.pos t.shapes).1):Int) - (1:Int) < (↑(List.length (ae e.types t.pos t.shapes).1):Int))/\((0:Int)<=(↑x.1:Int)/\(↑x.1:Int) < (↑(List.length t.vars):Int))/\((0:Int)<=(↑x.1:Int)/\(↑x.1:Int) < (↑(List.length (ae e.types t.pos t.shapes).1):Int))/\(List.length e.values<=(1000000000:Nat)/\List.length [{pkg:=[],name:=List.getD t.vars (Int.toNat (↑x.1:Int)) (dfl Ty.str),shape:=AL.Shape.mk ((List.getD (ae e.types t.pos t.shapes).1 (Int.toNat (↑x.1:Int)) (dfl (Ty.st SN.shape))).kind) ((List.getD (ae e.types t.pos t.shapes).1 (Int.toNat (↑x.1:Int)) (dfl (Ty.st SN.shape))).pkg) ((List.getD (ae e.types t.pos t.shapes).1 (Int.toNat (↑x.1:Int)) (dfl (Ty.st SN.shape))).name) ((List.getD (ae e.types t.pos t.shapes).1 (Int.toNat (↑x.1:Int)) (dfl (Ty.st SN.shape))).names) ((List.getD (ae e.types t.pos t.shapes).1 (Int.toNat (↑x.1:Int)) (dfl (Ty.st SN.shape))).parts):Bndg}]<=(1000:Nat))/\(szT (List.getD (List.drop (Int.toNat (1:Int)) (List.take (Int.toNat (↑(List.length t.parts):Int)) t.parts)) (Int.toNat (↑x.1:Int)) (dfl (Ty.st SN.term)))<=n/\allT ag (List.getD (List.drop (Int.toNat (1:Int)) (List.take (Int.toNat (↑(List.length t.parts):Int)) t.parts)) (Int.toNat (↑x.1:Int)) (dfl (Ty.st SN.term)))=true
  /\List.length (e.values++[{pkg:=[],name:=List.getD t.vars (Int.toNat (↑x.1:Int)) (dfl Ty.str),shape:=AL.Shape.mk ((List.getD (ae e.types t.pos t.shapes).1 (Int.toNat (↑x.1:Int)) (dfl (Ty.st SN.shape))).kind) ((List.getD (ae e.types t.pos t.shapes).1 (Int.toNat (↑x.1:Int)) (dfl (Ty.st SN.shape))).pkg) ((List.getD (ae e.types t.pos t.shapes).1 (Int.toNat (↑x.1:Int)) (dfl (Ty.st SN.shape))).name) ((List.getD (ae e.types t.pos t.shapes).1 (Int.toNat (↑x.1:Int)) (dfl (Ty.st SN.shape))).names) ((List.getD (ae e.types t.pos t.shapes).1 (Int.toNat (↑x.1:Int)) (dfl (Ty.st SN.shape))).parts):Bndg}])+(4096:Nat) *szT (List.getD (List.drop (Int.toNat (1:Int)) (List.take (Int.toNat (↑(List.length t.parts):Int)) t.parts)) (Int.toNat (↑x.1:Int)) (dfl (Ty.st SN.term)))<=(100000000:Nat))/\if (!decide ((az (aa n) (List.getD (List.drop (Int.toNat (1:Int)) (List.take (Int.toNat (↑(List.length t.parts):Int)) t.parts)) (Int.toNat (↑x.1:Int)) (dfl (Ty.st SN.term))) (List.getD (ae e.types t.pos t.shapes).1 (Int.toNat ((↑(List.length (ae e.types t.pos t.shapes).1):Int) - (1:Int))) (dfl (Ty.st SN.shape))) (bO e [{pkg:=[],name:=List.getD t.vars (Int.toNat (↑x.1:Int)) (dfl Ty.str),shape:=AL.Shape.mk ((List.getD (ae e.types t.pos t.shapes).1 (Int.toNat (↑x.1:Int)) (dfl (Ty.st SN.shape))).kind) ((List.getD (ae e.types t.pos t.shapes).1 (Int.toNat (↑x.1:Int)) (dfl (Ty.st SN.shape))).pkg) ((List.getD (ae e.types t.pos t.shapes).1 (Int.toNat (↑x.1:Int)) (dfl (Ty.st SN.shape))).name) ((List.getD (ae e.types t.pos t.shapes).1 (Int.toNat (↑x.1:Int)) (dfl (Ty.st SN.shape))).names) ((List.getD (ae e.types t.pos t.shapes).1 (Int.toNat (↑x.1:Int)) (dfl (Ty.st SN.shape))).parts):Bndg}])).err=(0:Int)))=true then ((0:Int)<=(↑(List.length (ae e.types t.pos t.shapes).1):Int) - (1:Int)/\(↑(List.length (ae e.types t.pos t.shapes).1):Int) - (1:Int) < (↑(List.length (ae e.types t.pos t.shapes).1):Int))/\True/\List.getD (ae e.types t.pos t.shapes).1 (Int.toNat ((↑(List.length (ae e.types t.pos t.shapes).1):Int) - (1:Int))) (dfl (Ty.st SN.shape))=(aG (aa n) t e).1/\(az (aa n) (List.getD (List.drop (Int.toNat (1:Int)) (List.take (Int.toNat (↑(List.length t.parts):Int)) t.parts)) (Int.toNat (↑x.1:Int)) (dfl (Ty.st SN.term))) (List.getD (ae e.types t.pos t.shapes).1 (Int.toNat ((↑(List.length (ae e.types t.pos t.shapes).1):Int) - (1:Int))) (dfl (Ty.st SN.shape))) (bO e [{pkg:=[],name:=List.getD t.vars (Int.toNat (↑x.1:Int)) (dfl Ty.str),shape:=AL.Shape.mk ((List.getD (ae e.types t.pos t.shapes).1 (Int.toNat (↑x.1:Int)) (dfl (Ty.st SN.shape))).kind) ((List.getD (ae e.types t.pos t.shapes).1 (Int.toNat (↑x.1:Int)) (dfl (Ty.st SN.shape))).pkg) ((List.getD (ae e.types t.pos t.shapes).1 (Int.toNat (↑x.1:Int)) (dfl (Ty.st SN.shape))).name) ((List.getD (ae e.types t.pos t.shapes).1 (Int.toNat (↑x.1:Int)) (dfl (Ty.st SN.shape))).names) ((List.getD (ae e.types t.pos t.shapes).1 (Int.toNat (↑x.1:Int)) (dfl (Ty.st SN.shape))).parts):Bndg}])).err=(aG (aa n) t e).2.err
  /\(az (aa n) (List.getD (List.drop (Int.toNat (1:Int)) (List.take (Int.toNat (↑(List.length t.parts):Int)) t.parts)) (Int.toNat (↑x.1:Int)) (dfl (Ty.st SN.term))) (List.getD (ae e.types t.pos t.shapes).1 (Int.toNat ((↑(List.length (ae e.types t.pos t.shapes).1):Int) - (1:Int))) (dfl (Ty.st SN.shape))) (bO e [{pkg:=[],name:=List.getD t.vars (Int.toNat (↑x.1:Int)) (dfl Ty.str),shape:=AL.Shape.mk ((List.getD (ae e.types t.pos t.shapes).1 (Int.toNat (↑x.1:Int)) (dfl (Ty.st SN.shape))).kind) ((List.getD (ae e.types t.pos t.shapes).1 (Int.toNat (↑x.1:Int)) (dfl (Ty.st SN.shape))).pkg) ((List.getD (ae e.types t.pos t.shapes).1 (Int.toNat (↑x.1:Int)) (dfl (Ty.st SN.shape))).name) ((List.getD (ae e.types t.pos t.shapes).1 (Int.toNat (↑x.1:Int)) (dfl (Ty.st SN.shape))).names) ((List.getD (ae e.types t.pos t.shapes).1 (Int.toNat (↑x.1:Int)) (dfl (Ty.st SN.shape))).parts):Bndg}])).pos=(aG (aa n) t e).2.pos/\True else inR IntKind.i64 ((↑x.1:Int)+(1:Int))/\∃(y:Nat × Flt),(y.1+(1:Nat)<=List.length t.parts/\y.2.err=(0:Int)/\y.2.pos=(0:Int)/\fc (aa n) e (List.getD (ae e.types t.pos t.shapes).1 (List.length (ae e.types t.pos t.shapes).1 - (1:Nat)) aq) (List.drop (y.1+(1:Nat)) t.parts) (List.drop y.1 t.vars) (List.drop y.1 (ae e.types t.pos t.shapes).1)=fc (aa n) e (List.getD (ae e.types t.pos t.shapes).1 (List.length (ae e.types t.pos t.shapes).1 - (1:Nat)) aq) (List.drop (1:Nat) t.parts) t.vars (ae e.types t.pos t.shapes).1)/\List.length t.parts - y.1 < List.length t.parts - x.1/\(↑x.1:Int)+(1:Int)=(↑y.1:Int)/\t=t/\e=e/\(ae e.types t.pos t.shapes).1=(ae e.types t.pos t.shapes).1/\false=false/\(↑(List.length (ae e.types t.pos t.shapes).1):Int) - (1:Int)=(↑(List.length (ae e.types t.pos t.shapes).1):Int) - (1:Int)/\t.kind=t.kind/\false=false/\false=false/\false=false/\false=false/\false=false/\List.drop (Int.toNat (1:Int)) (List.take (Int.toNat (↑(List.length t.parts):Int)) t.parts)=List.drop (Int.toNat (1:Int)) (List.take (Int.toNat (↑(List.length t.parts):Int)) t.parts)/\(↑(List.length (List.drop (Int.toNat (1:Int)) (List.take (Int.toNat (↑(List.length t.parts):Int)) t.parts))):Int)=(↑(List.length (List.drop (Int.toNat (1:Int)) (List.take (Int.toNat (↑(List.length t.parts):Int)) t.parts))):Int)/\(az (aa n) (List.getD (List.drop (Int.toNat (1:Int)) (List.take (Int.toNat (↑(List.length t.parts):Int)) t.parts)) (Int.toNat (↑x.1:Int)) (dfl (Ty.st SN.term))) (List.getD (ae e.types t.pos t.shapes).1 (Int.toNat ((↑(List.length (ae e.types t.pos t.shapes).1):Int) - (1:Int))) (dfl (Ty.st SN.shape))) (bO e [{pkg:=[],name:=List.getD t.vars (Int.toNat (↑x.1:Int)) (dfl Ty.str),shape:=AL.Shape.mk ((List.getD (ae e.types t.pos t.shapes).1 (Int.toNat (↑x.1:Int)) (dfl (Ty.st SN.shape))).kind) ((List.getD (ae e.types t.pos t.shapes).1 (Int.toNat (↑x.1:Int)) (dfl (Ty.st SN.shape))).pkg) ((List.getD (ae e.types t.pos t.shapes).1 (Int.toNat (↑x.1:Int)) (dfl (Ty.st SN.shape))).name) ((List.getD (ae e.types t.pos t.shapes).1 (Int.toNat (↑x.1:Int)) (dfl (Ty.st SN.shape))).names) ((List.getD (ae e.types t.pos t.shapes).1 (Int.toNat (↑x.1:Int)) (dfl (Ty.st SN.shape))).parts):Bndg}])).err=y.2.err
  /\(az (aa n) (List.getD (List.drop (Int.toNat (1:Int)) (List.take (Int.toNat (↑(List.length t.parts):Int)) t.parts)) (Int.toNat (↑x.1:Int)) (dfl (Ty.st SN.term))) (List.getD (ae e.types t.pos t.shapes).1 (Int.toNat ((↑(List.length (ae e.types t.pos t.shapes).1):Int) - (1:Int))) (dfl (Ty.st SN.shape))) (bO e [{pkg:=[],name:=List.getD t.vars (Int.toNat (↑x.1:Int)) (dfl Ty.str),shape:=AL.Shape.mk ((List.getD (ae e.types t.pos t.shapes).1 (Int.toNat (↑x.1:Int)) (dfl (Ty.st SN.shape))).kind) ((List.getD (ae e.types t.pos t.shapes).1 (Int.toNat (↑x.1:Int)) (dfl (Ty.st SN.shape))).pkg) ((List.getD (ae e.types t.pos t.shapes).1 (Int.toNat (↑x.1:Int)) (dfl (Ty.st SN.shape))).name) ((List.getD (ae e.types t.pos t.shapes).1 (Int.toNat (↑x.1:Int)) (dfl (Ty.st SN.shape))).names) ((List.getD (ae e.types t.pos t.shapes).1 (Int.toNat (↑x.1:Int)) (dfl (Ty.st SN.shape))).parts):Bndg}])).pos=y.2.pos/\t=t/\e=e/\(0:Int)=(0:Int)/\aF UInt8=aF UInt8/\aF UInt8=aF UInt8/\(0:Int)=(0:Int)/\(0:Int)=(0:Int)/\List.length (ae e.types t.pos t.shapes).1=List.length (ae e.types t.pos t.shapes).1/\(az (aa n) (List.getD t.parts (Int.toNat (0:Int)) (dfl (Ty.st SN.term))) {kind:=(7:Int),pkg:=[],name:=[],names:=t.names,parts:=List.drop (Int.toNat (0:Int)) (List.take (Int.toNat ((↑(List.length (ae e.types t.pos t.shapes).1):Int) - (1:Int))) (ae e.types t.pos t.shapes).1):Shape} e).err=(az (aa n) (List.getD t.parts (Int.toNat (0:Int)) (dfl (Ty.st SN.term))) {kind:=(7:Int),pkg:=[],name:=[],names:=t.names,parts:=List.drop (Int.toNat (0:Int)) (List.take (Int.toNat ((↑(List.length (ae e.types t.pos t.shapes).1):Int) - (1:Int))) (ae e.types t.pos t.shapes).1):Shape} e).err/\(az (aa n) (List.getD t.parts (Int.toNat (0:Int)) (dfl (Ty.st SN.term))) {kind:=(7:Int),pkg:=[],name:=[],names:=t.names,parts:=List.drop (Int.toNat (0:Int)) (List.take (Int.toNat ((↑(List.length (ae e.types t.pos t.shapes).1):Int) - (1:Int))) (ae e.types t.pos t.shapes).1):Shape} e).pos=(az (aa n) (List.getD t.parts (Int.toNat (0:Int)) (dfl (Ty.st SN.term))) {kind:=(7:Int),pkg:=[],name:=[],names:=t.names,parts:=List.drop (Int.toNat (0:Int)) (List.take (Int.toNat ((↑(List.length (ae e.types t.pos t.shapes).1):Int) - (1:Int))) (ae e.types t.pos t.shapes).1):Shape} e).pos/\True else ((0:Int)<=(↑(List.length (ae e.types t.pos t.shapes).1):Int) - (1:Int)/\(↑(List.length (ae e.types t.pos t.shapes).1):Int) - (1:Int) < (↑(List.length (ae e.types t.pos t.shapes).1):Int))/\True/\List.getD (ae e.types t.pos t.shapes).1 (Int.toNat ((↑(List.length (ae e.types t.pos t.shapes).1):Int) - (1:Int))) (dfl (Ty.st SN.shape))=(aG (aa n) t e).1/\x.2.err=(aG (aa n) t e).2.err/\x.2.pos=(aG (aa n) t e).2.pos/\True:=by
 have rm:=yQ hf
 have ln:=ht.term_parts.len
 have ps:=uh t
 have hds:List.drop (Int.toNat 1) (List.take t.parts.length t.parts)=t.parts.drop 1:=by rw [List.take_length];rfl
 have hdg:∀k:Nat,(t.parts.drop 1).getD k (dfl (.st .term))=t.parts.getD (k+1) (dfl (.st .term)):=fun k=>by
  rw [List.getD_eq_getElem?_getD,List.getD_eq_getElem?_getD,List.getElem?_drop,Nat.add_comm]
 have e0:Int.toNat 0=0:=rfl
 have e1:Int.toNat 1=1:=rfl
 have e2:Int.toNat 2=2:=rfl
 have et:∀s:Shape,AL.Shape.mk s.kind s.pkg s.name s.names s.parts=s:=fun s=>by cases s;rfl
 simp only [hds,et,Int.toNat_natCast,eq_self,true_and,and_true]
 simp only [hdg,e0,e1,e2,List.length_drop,List.drop_zero]
 have hsh:t.shapes.length<=1000000:=by
  rcases hk with k | k | k | k | k
  ·have:=rm.k6 k;omega
  ·have:=rm.k11 k;omega
  ·have:=rm.k12 k;omega
  ·have:=rm.k13 k;omega
  ·have:=rm.k15 k;omega
 have hl:=@pj e.types t.pos t.shapes
 have hok:=@qM e.types t.pos t.shapes
 have hA0:¬(ae e.types t.pos t.shapes).2.err=0→aG (aa n) t e=(aq,(ae e.types t.pos t.shapes).2):=fun h=>by simp only [aG,if_neg h]
 have hA6:(ae e.types t.pos t.shapes).2.err=0→t.kind=6→aG (aa n) t e=(⟨8,[],[],[],(ae e.types t.pos t.shapes).1++[(aa n (t.parts.getD 0 aC) (bO e (eo t.names (ae e.types t.pos t.shapes).1))).1]⟩,(aa n (t.parts.getD 0 aC) (bO e (eo t.names (ae e.types t.pos t.shapes).1))).2):=fun h k=>by simp only [aG,if_pos h,if_pos k]
 have hA11:(ae e.types t.pos t.shapes).2.err=0→t.kind=11→aG (aa n) t e=if (cC (aa n) e ((ae e.types t.pos t.shapes).1.getD 0 aq) t.parts).err=0 then (⟨5,[],[],[],(ae e.types t.pos t.shapes).1⟩,di) else ((ae e.types t.pos t.shapes).1.getD 0 aq,cC (aa n) e ((ae e.types t.pos t.shapes).1.getD 0 aq) t.parts):=fun h k=>by
  simp only [aG,if_pos h,if_neg (show ¬t.kind=6 by omega),if_pos k]
 have hA15:(ae e.types t.pos t.shapes).2.err=0→t.kind=15→aG (aa n) t e=((ae e.types t.pos t.shapes).1.getD 0 aq,az (aa n) (t.parts.getD 0 aC) ((ae e.types t.pos t.shapes).1.getD 0 aq) e):=fun h k=>by
  simp only [aG,if_pos h,if_neg (show ¬t.kind=6 by omega),if_neg (show ¬t.kind=11 by omega),if_pos k]
 have hA12:(ae e.types t.pos t.shapes).2.err=0→t.kind=12→aG (aa n) t e=((ae e.types t.pos t.shapes).1.getD 0 aq,if (az (aa n) (t.parts.getD 0 aC) (ofK 2) e).err=0 then (if (az (aa n) (t.parts.getD 1 aC) ((ae e.types t.pos t.shapes).1.getD 0 aq) e).err=0 then az (aa n) (t.parts.getD 2 aC) ((ae e.types t.pos t.shapes).1.getD 0 aq) e else az (aa n) (t.parts.getD 1 aC) ((ae e.types t.pos t.shapes).1.getD 0 aq) e) else az (aa n) (t.parts.getD 0 aC) (ofK 2) e):=fun h k=>by
  simp only [aG,if_pos h,if_neg (show ¬t.kind=6 by omega),if_neg (show ¬t.kind=11 by omega),if_neg (show ¬t.kind=15 by omega),if_pos k]
 have hA13:(ae e.types t.pos t.shapes).2.err=0→t.kind=13→aG (aa n) t e=((ae e.types t.pos t.shapes).1.getD ((ae e.types t.pos t.shapes).1.length - 1) aq,if (az (aa n) (t.parts.getD 0 aC) ⟨7,[],[],t.names,(ae e.types t.pos t.shapes).1.take ((ae e.types t.pos t.shapes).1.length - 1)⟩ e).err=0 then fc (aa n) e ((ae e.types t.pos t.shapes).1.getD ((ae e.types t.pos t.shapes).1.length - 1) aq) (t.parts.drop 1) t.vars (ae e.types t.pos t.shapes).1 else az (aa n) (t.parts.getD 0 aC) ⟨7,[],[],t.names,(ae e.types t.pos t.shapes).1.take ((ae e.types t.pos t.shapes).1.length - 1)⟩ e):=fun h k=>by
  simp only [aG,if_pos h,if_neg (show ¬t.kind=6 by omega),if_neg (show ¬t.kind=11 by omega),if_neg (show ¬t.kind=15 by omega),if_neg (show ¬t.kind=12 by omega)]
 revert hl hok hA0 hA6 hA11 hA15 hA12 hA13
 generalize aG (aa n) t e=R
 generalize ae e.types t.pos t.shapes=L
 intro hl hok hA0 hA6 hA11 hA15 hA12 hA13
 refine ⟨hsh,ab (fun h=>?_) (fun h=>?_)⟩
 ·rw [hA0 (ndF h)];exact ⟨rfl,rfl,rfl,rfl,rfl,rfl,rfl⟩
 have h:L.2.err=0:=ndT h
 have hl:=hl h
 have hok:L.2=di:=by rw [hok h]
 have nx:∀{j w:Nat},j < t.parts.length→w<=e.values.length+4096→szT (t.parts.getD j (dfl (.st .term)))<=n/\allT ag (t.parts.getD j (dfl (.st .term)))=true/\w+4096 *szT (t.parts.getD j (dfl (.st .term)))<=100000000:=fun hj hw=>sq hz hf hv _ hj hw
 refine ⟨bA (by omega) (by omega),ab (fun k=>?_) (fun k6=>?_)⟩
 ·have k:=Xo k
  obtain ⟨n1,n2,n3⟩:=rm.k6 k
  refine ⟨⟨(0,e),⟨Nat.zero_le _,rfl,by rw [List.drop_zero,List.drop_zero]⟩,rfl,rfl⟩,?_⟩
  rintro ⟨j,f⟩ ⟨h1,h2,h3⟩
  dsimp only at h1 h2 h3 ⊢
  refine ab (fun c=>?_) (fun c=>?_)
  ·have c:=Xo c
   have hj:j < t.names.length:=by omega
   rw [aE t.names j (dfl .str) hj,aE L.1 j (dfl (.st .shape)) (by omega)] at h3
   simp only [eo] at h3
   refine ⟨by omega,by omega,⟨by omega,by simp⟩,bA (by omega) (by omega),(j+1,_),⟨by dsimp only;omega,?_,?_⟩,by dsimp only;omega,by dsimp only;omega,rfl⟩
   ·dsimp only;rw [List.length_append,h2];simp only [List.length_cons,List.length_nil];omega
   ·show bO (bO f [mY (t.names.getD j (dfl .str)) (L.1.getD j (dfl (.st .shape)))]) _=_
    rw [ug];exact h3
  ·have c:¬((j:Int) < (t.names.length:Int)):=fun q=>c (Xd q)
   have hj:j=t.names.length:=by omega
   have hf':f=bO e (eo t.names L.1):=by
    rw [hj,List.drop_length] at h3
    simp only [eo] at h3
    rw [Aa] at h3
    exact h3
   have ob:=nx (j:=0) (w:=f.values.length) (by omega) (by omega)
   rw [hA6 h k]
   refine ⟨by omega,ob,?_,rfl,rfl,rfl,rfl,?_,?_,?_⟩
   ·simp only [List.length_cons,List.length_nil];omega
   ·rw [hf'];rfl
   ·rw [hf'];rfl
   ·rw [hf'];rfl
 have k6:¬t.kind=6:=fun q=>k6 (Xd q)
 refine ab (fun k=>?_) (fun k11=>?_)
 ·have k:=Xo k
  have n1:=rm.k11 k
  refine ⟨⟨0,⟨Nat.zero_le _,by rw [List.drop_zero]⟩,rfl⟩,?_⟩
  rintro j ⟨h1,h2⟩
  refine ab (fun c=>?_) (fun c=>?_)
  ·have c:=Xo c
   have hj:j < t.parts.length:=by omega
   rw [aE t.parts j (dfl (.st .term)) hj] at h2
   simp only [cC] at h2
   refine ⟨by omega,by omega,nx hj (Nat.le_add_right _ _),ab (fun f=>?_) (fun f=>?_)⟩
   ·have f:¬(az (aa n) (t.parts.getD j (dfl (.st .term))) (L.1.getD 0 aq) e).err=0:=ndF f
    rw [if_neg f] at h2
    rw [hA11 h k,←h2,if_neg f]
    exact ⟨by omega,rfl,rfl,rfl⟩
   ·have f:(az (aa n) (t.parts.getD j (dfl (.st .term))) (L.1.getD 0 aq) e).err=0:=ndT f
    rw [if_pos f] at h2
    exact ⟨aK hj ln,j+1,⟨by omega,h2⟩,by omega,by omega⟩
  ·have c:¬((j:Int) < (t.parts.length:Int)):=fun q=>c (Xd q)
   have hj:j=t.parts.length:=by omega
   rw [hj,List.drop_length] at h2
   rw [hA11 h k,←h2]
   exact ⟨rfl,rfl,rfl,rfl,rfl,rfl,rfl⟩
 have k11:¬t.kind=11:=fun q=>k11 (Xd q)
 refine ab (fun k=>?_) (fun k15=>?_)
 ·have k:=Xo k
  obtain ⟨n1,n2⟩:=rm.k15 k
  rw [hA15 h k]
  exact ⟨by omega,by omega,by omega,nx (by omega) (Nat.le_add_right _ _),rfl,rfl,rfl⟩
 have k15:¬t.kind=15:=fun q=>k15 (Xd q)
 refine ab (fun k=>?_) (fun k12=>?_)
 ·have k:=Xo k
  obtain ⟨n1,n2⟩:=rm.k12 k
  rw [hA12 h k]
  refine ⟨by omega,nx (by omega) (Nat.le_add_right _ _),ab (fun f=>?_) (fun f=>?_)⟩
  ·rw [if_neg (show ¬(az (aa n) (t.parts.getD 0 aC) (ofK 2) e).err=0 from ndF f)]
   exact ⟨by omega,rfl,rfl,rfl⟩
  rw [if_pos (show (az (aa n) (t.parts.getD 0 aC) (ofK 2) e).err=0 from ndT f)]
  refine ⟨by omega,by omega,nx (by omega) (Nat.le_add_right _ _),ab (fun f=>?_) (fun f=>?_)⟩
  ·rw [if_neg (show ¬(az (aa n) (t.parts.getD 1 aC) (L.1.getD 0 aq) e).err=0 from ndF f)]
   exact ⟨by omega,rfl,rfl,rfl⟩
  rw [if_pos (show (az (aa n) (t.parts.getD 1 aC) (L.1.getD 0 aq) e).err=0 from ndT f)]
  exact ⟨by omega,by omega,by omega,nx (by omega) (Nat.le_add_right _ _),rfl,rfl,rfl⟩
 have k12:¬t.kind=12:=fun q=>k12 (Xd q)
 have k:t.kind=13:=by omega
 obtain ⟨n1,n2,n3⟩:=rm.k13 k
 have el:((L.1.length:Int) - 1).toNat=L.1.length - 1:=by omega
 rw [el,hA13 h k]
 refine ⟨by omega,by omega,nx (by omega) (Nat.le_add_right _ _),ab (fun f=>?_) (fun f=>?_)⟩
 ·rw [if_neg (show ¬(az (aa n) (t.parts.getD 0 aC) ⟨7,[],[],t.names,L.1.take (L.1.length - 1)⟩ e).err=0 from ndF f)]
  exact ⟨by omega,rfl,rfl,rfl⟩
 rw [if_pos (show (az (aa n) (t.parts.getD 0 aC) ⟨7,[],[],t.names,L.1.take (L.1.length - 1)⟩ e).err=0 from ndT f)]
 refine ⟨by omega,⟨(0,di),⟨by dsimp only;omega,rfl,rfl,by rw [List.drop_zero,List.drop_zero]⟩,rfl,by rw [hok],by rw [hok]⟩,?_⟩
 rintro ⟨j,f⟩ ⟨h1,h2,h3,h4⟩
 dsimp only at h1 h2 h3 h4 ⊢
 refine ab (fun c=>?_) (fun c=>?_)
 ·have c:=Xo c
  have hj:j+1 < t.parts.length:=by omega
  rw [aE t.parts (j+1) (dfl (.st .term)) hj,aE t.vars j (dfl .str) (by omega),aE L.1 j (dfl (.st .shape)) (by omega)] at h4
  simp only [fc] at h4
  have ob:=nx (j:=j+1) (w:=e.values.length+1) hj (by omega)
  refine ⟨by omega,by omega,by omega,by omega,⟨by omega,by simp⟩,?_,ab (fun f=>?_) (fun f=>?_)⟩
  ·rw [List.length_append];exact ob
  ·have f:=ndF f
   rw [←h4,if_neg (show ¬(az (aa n) (t.parts.getD (j+1) (dfl (.st .term))) (L.1.getD (L.1.length - 1) aq) (bO e [mY (t.vars.getD j (dfl .str)) (L.1.getD j (dfl (.st .shape)))])).err=0 from f)]
   exact ⟨by omega,rfl,rfl,rfl⟩
  ·have f:=ndT f
   rw [if_pos (show (az (aa n) (t.parts.getD (j+1) (dfl (.st .term))) (L.1.getD (L.1.length - 1) aq) (bO e [mY (t.vars.getD j (dfl .str)) (L.1.getD j (dfl (.st .shape)))])).err=0 from f)] at h4
   exact ⟨aK (by omega) ln,(j+1,di),⟨by dsimp only;omega,rfl,rfl,h4⟩,by dsimp only;omega,by dsimp only;omega,f,by rw [Ac f]⟩
 ·have c:¬((j:Int) < ((t.parts.length - 1:Nat):Int)):=fun q=>c (Xd q)
  have hj:j+1=t.parts.length:=by omega
  rw [hj,List.drop_length] at h4
  simp only [fc] at h4
  rw [←h4]
  exact ⟨by omega,rfl,h2,h3⟩
theorem AK (n:Nat) (t:Trm) (e:Envt) (ht:Wf (.st .term) t) (he:Wf (.st .env) e) (hz:szT t<=n+1) (hf:allT ag t=true) (hv:e.values.length+4096 *szT t<=100000000) :
  if decide (t.kind=(1:Int))=true then True/\ofK (1:Int)=(ao (aa n) t e).1/\(0:Int)=(ao (aa n) t e).2.err/\(0:Int)=(ao (aa n) t e).2.pos/\True else if decide (t.kind=(2:Int))=true then True/\ofK (3:Int)=(ao (aa n) t e).1/\(0:Int)=(ao (aa n) t e).2.err/\(0:Int)=(ao (aa n) t e).2.pos/\True else if decide (t.kind=(3:Int))=true then True/\ofK (2:Int)=(ao (aa n) t e).1/\(0:Int)=(ao (aa n) t e).2.err/\(0:Int)=(ao (aa n) t e).2.pos/\True else (decide (t.kind=(4:Int))=(decide (t.kind=(3:Int)) || decide (t.kind=(4:Int)))/\t=t/\e=e/\t.kind=t.kind/\false=false/\false=false/\t=t/\e=e/\(0:Int)=(0:Int)/\aF UInt8=aF UInt8/\aF UInt8=aF UInt8/\(0:Int)=(0:Int)/\(0:Int)=(0:Int)/\True)/\if (decide (t.kind=(3:Int)) || decide (t.kind=(4:Int)))=true then True/\ofK (2:Int)=(ao (aa n) t e).1/\(0:Int)=(ao (aa n) t e).2.err/\(0:Int)=(ao (aa n) t e).2.pos/\True else if decide (t.kind=(5:Int))=true then if (!Option.isSome (bg e.values t.pkg t.name))=true then True/\Option.elim (bg e.values t.pkg t.name) aq b6=(ao (aa n) t e).1/\(110:Int)=(ao (aa n) t e).2.err/\t.pos=(ao (aa n) t e).2.pos/\True else True/\Option.elim (bg e.values t.pkg t.name) aq b6=(ao (aa n) t e).1/\(0:Int)=(ao (aa n) t e).2.err/\(0:Int)=(ao (aa n) t e).2.pos/\True else if decide (t.kind=(7:Int))=true then ((0:Nat) < List.length t.parts/\szT t<=n+(1:Nat)/\allT ag t=true/\List.length e.values+(4096:Nat) *szT t<=(100000000:Nat))/\True/\(bP (aa n) t e).1=(ao (aa n) t e).1/\(bP (aa n) t e).2.err=(ao (aa n) t e).2.err/\(bP (aa n) t e).2.pos=(ao (aa n) t e).2.pos/\True else if decide (t.kind=(8:Int))=true then (∃(x:Nat × List Shape),(x.1<=List.length t.parts/\List.length x.2=x.1/\cb (aa n) e t.parts=(x.2++(cb (aa n) e (List.drop x.1 t.parts)).1,(cb (aa n) e (List.drop x.1 t.parts)).2))/\(0:Int)=(↑x.1:Int)/\false=false/\t=t/\e=e/\t.kind=t.kind/\false=false/\false=false/\false=false/\false=false/\true=true/\t.parts=t.parts/\(↑(List.length t.parts):Int)=(↑(List.length t.parts):Int)/\(6:Int)=(6:Int)/\aF UInt8=aF UInt8/\aF UInt8=aF UInt8/\t.names=t.names/\x.2=[]/\List.length x.2=(0:Nat)/\t=t/\e=e/\(0:Int)=(0:Int)/\aF UInt8=aF UInt8/\aF UInt8=aF UInt8/\(0:Int)=(0:Int)/\(0:Int)=(0:Int)/\True)/\∀(x:Nat × List Shape),x.1<=List.length t.parts/\List.length x.2=x.1/\cb (aa n) e t.parts=(x.2++(cb (aa n) e (List.drop x.1 t.parts)).1,(cb (aa n) e (List.drop x.1 t.parts)).2)→if decide ((↑x.1:Int) < (↑(List.length t.parts):Int))=true then ((0:Int)<=(↑x.1:Int)/\(↑x.1:Int) < (↑(List.length t.parts):Int))/\(szT (List.getD t.parts (Int.toNat (↑x.1:Int)) (dfl (Ty.st SN.term)))<=n/\allT ag (List.getD t.parts (Int.toNat (↑x.1:Int)) (dfl (Ty.st SN.term)))=true/\List.length e.values+(4096:Nat) *szT (List.getD t.parts (Int.toNat (↑x.1:Int)) (dfl (Ty.st SN.term)))<=(100000000:Nat))/\if (!decide ((aa n (List.getD t.parts (Int.toNat (↑x.1:Int)) (dfl (Ty.st SN.term))) e).2.err=(0:Int)))=true then True/\(aa n (List.getD t.parts (Int.toNat (↑x.1:Int)) (dfl (Ty.st SN.term))) e).1=(ao (aa n) t e).1/\(aa n (List.getD t.parts (Int.toNat (↑x.1:Int)) (dfl (Ty.st SN.term))) e).2.err=(ao (aa n) t e).2.err
  /\(aa n (List.getD t.parts (Int.toNat (↑x.1:Int)) (dfl (Ty.st SN.term))) e).2.pos=(ao (aa n) t e).2.pos/\True else (List.length x.2=List.length x.2/\(List.length x.2+List.length [(aa n (List.getD t.parts (Int.toNat (↑x.1:Int)) (dfl (Ty.st SN.term))) e).1]) *(88:Nat)<=(140737488355328:Nat))/\inR IntKind.i64 ((↑x.1:Int)+(1:Int))/\∃(y:Nat × List Shape),(y.1<=List.length t.parts/\List.length y.2=y.1/\cb (aa n) e t.parts=(y.2++(cb (aa n) e (List.drop y.1 t.parts)).1,(cb (aa n) e (List.drop y.1 t.parts)).2))/\List.length t.parts - y.1 < List.length t.parts - x.1/\(↑x.1:Int)+(1:Int)=(↑y.1:Int)/\false=false/\t=t/\e=e/\t.kind=t.kind/\false=false/\false=false/\false=false/\false=false/\true=true/\t.parts=t.parts/\(↑(List.length t.parts):Int)=(↑(List.length t.parts):Int)/\(6:Int)=(6:Int)/\aF UInt8=aF UInt8/\aF UInt8=aF UInt8/\t.names=t.names/\x.2++[(aa n (List.getD t.parts (Int.toNat (↑x.1:Int)) (dfl (Ty.st SN.term))) e).1]=y.2/\List.length (x.2++[(aa n (List.getD t.parts (Int.toNat (↑x.1:Int)) (dfl (Ty.st SN.term))) e).1])=List.length y.2/\t=t/\e=e/\(0:Int)=(0:Int)/\aF UInt8=aF UInt8/\aF UInt8=aF UInt8/\(0:Int)=(0:Int)/\(0:Int)=(0:Int)/\True else True/\(6:Int)=(ao (aa n) t e).1.kind/\[]=(ao (aa n) t e).1.pkg/\[]=(ao (aa n) t e).1.name/\t.names=(ao (aa n) t e).1.names/\x.2=(ao (aa n) t e).1.parts/\(0:Int)=(ao (aa n) t e).2.err/\(0:Int)=(ao (aa n) t e).2.pos/\True else if decide (t.kind=(9:Int))=true then ((0:Nat) < List.length t.parts/\szT t<=n+(1:Nat)/\allT ag t=true/\List.length e.values+(4096:Nat) *szT t<=(100000000:Nat))/\True/\(bR (aa n) t e).1=(ao (aa n) t e).1/\(bR (aa n) t e).2.err=(ao (aa n) t e).2.err/\(bR (aa n) t e).2.pos=(ao (aa n) t e).2.pos/\True else if decide (t.kind=(10:Int))=true then ((0:Int)<=(0:Int)/\(0:Int) < (↑(List.length t.parts):Int))/\(szT (List.getD t.parts (Int.toNat (0:Int)) (dfl (Ty.st SN.term)))<=n/\allT ag (List.getD t.parts (Int.toNat (0:Int)) (dfl (Ty.st SN.term)))=true/\List.length e.values+(4096:Nat) *szT (List.getD t.parts (Int.toNat (0:Int)) (dfl (Ty.st SN.term)))<=(100000000:Nat))/\True/\(7:Int)=(ao (aa n) t e).1.kind/\[]=(ao (aa n) t e).1.pkg/\[]=(ao (aa n) t e).1.name/\[t.name]=(ao (aa n) t e).1.names/\[(aa n (List.getD t.parts (Int.toNat (0:Int)) (dfl (Ty.st SN.term))) e).1]=(ao (aa n) t e).1.parts/\(aa n (List.getD t.parts (Int.toNat (0:Int)) (dfl (Ty.st SN.term))) e).2.err=(ao (aa n) t e).2.err/\(aa n (List.getD t.parts (Int.toNat (0:Int)) (dfl (Ty.st SN.term))) e).2.pos=(ao (aa n) t e).2.pos/\True else if decide (t.kind=(14:Int))=true then ((0:Int)<=(0:Int)/\(0:Int) < (↑(List.length t.parts):Int))/\(szT (List.getD t.parts (Int.toNat (0:Int)) (dfl (Ty.st SN.term)))<=n/\allT ag (List.getD t.parts (Int.toNat (0:Int)) (dfl (Ty.st SN.term)))=true/\List.length e.values+(4096:Nat) *szT (List.getD t.parts (Int.toNat (0:Int)) (dfl (Ty.st SN.term)))<=(100000000:Nat))/\if (!decide ((aa n (List.getD t.parts (Int.toNat (0:Int)) (dfl (Ty.st SN.term))) e).2.err=(0:Int)))=true then True/\(aa n (List.getD t.parts (Int.toNat (0:Int)) (dfl (Ty.st SN.term))) e).1=(ao (aa n) t e).1/\(aa n (List.getD t.parts (Int.toNat (0:Int)) (dfl (Ty.st SN.term))) e).2.err=(ao (aa n) t e).2.err
  /\(aa n (List.getD t.parts (Int.toNat (0:Int)) (dfl (Ty.st SN.term))) e).2.pos=(ao (aa n) t e).2.pos/\True else ((0:Int)<=(1:Int)/\(1:Int) < (↑(List.length t.parts):Int))/\(List.length e.values<=(1000000000:Nat)/\List.length [{pkg:=[],name:=t.name,shape:=AL.Shape.mk ((aa n (List.getD t.parts (Int.toNat (0:Int)) (dfl (Ty.st SN.term))) e).1.kind) ((aa n (List.getD t.parts (Int.toNat (0:Int)) (dfl (Ty.st SN.term))) e).1.pkg) ((aa n (List.getD t.parts (Int.toNat (0:Int)) (dfl (Ty.st SN.term))) e).1.name) ((aa n (List.getD t.parts (Int.toNat (0:Int)) (dfl (Ty.st SN.term))) e).1.names) ((aa n (List.getD t.parts (Int.toNat (0:Int)) (dfl (Ty.st SN.term))) e).1.parts):Bndg}]<=(1000:Nat))/\(szT (List.getD t.parts (Int.toNat (1:Int)) (dfl (Ty.st SN.term)))<=n/\allT ag (List.getD t.parts (Int.toNat (1:Int)) (dfl (Ty.st SN.term)))=true/\List.length (e.values++[{pkg:=[],name:=t.name,shape:=AL.Shape.mk ((aa n (List.getD t.parts (Int.toNat (0:Int)) (dfl (Ty.st SN.term))) e).1.kind) ((aa n (List.getD t.parts (Int.toNat (0:Int)) (dfl (Ty.st SN.term))) e).1.pkg) ((aa n (List.getD t.parts (Int.toNat (0:Int)) (dfl (Ty.st SN.term))) e).1.name) ((aa n (List.getD t.parts (Int.toNat (0:Int)) (dfl (Ty.st SN.term))) e).1.names) ((aa n (List.getD t.parts (Int.toNat (0:Int)) (dfl (Ty.st SN.term))) e).1.parts):Bndg}])+(4096:Nat) *szT (List.getD t.parts (Int.toNat (1:Int)) (dfl (Ty.st SN.term)))<=(100000000:Nat))/\True/\(aa n (List.getD t.parts (Int.toNat (1:Int)) (dfl (Ty.st SN.term))) (bO e [{pkg:=[],name:=t.name,shape:=AL.Shape.mk ((aa n (List.getD t.parts (Int.toNat (0:Int)) (dfl (Ty.st SN.term))) e).1.kind) ((aa n (List.getD t.parts (Int.toNat (0:Int)) (dfl (Ty.st SN.term))) e).1.pkg) ((aa n (List.getD t.parts (Int.toNat (0:Int)) (dfl (Ty.st SN.term))) e).1.name) ((aa n (List.getD t.parts (Int.toNat (0:Int)) (dfl (Ty.st SN.term))) e).1.names) ((aa n (List.getD t.parts (Int.toNat (0:Int)) (dfl (Ty.st SN.term))) e).1.parts):Bndg}])).1=(ao (aa n) t e).1/\(aa n (List.getD t.parts (Int.toNat (1:Int)) (dfl (Ty.st SN.term))) (bO e [{pkg:=[],name:=t.name,shape:=AL.Shape.mk ((aa n (List.getD t.parts (Int.toNat (0:Int)) (dfl (Ty.st SN.term))) e).1.kind) ((aa n (List.getD t.parts (Int.toNat (0:Int)) (dfl (Ty.st SN.term))) e).1.pkg) ((aa n (List.getD t.parts (Int.toNat (0:Int)) (dfl (Ty.st SN.term))) e).1.name) ((aa n (List.getD t.parts (Int.toNat (0:Int)) (dfl (Ty.st SN.term))) e).1.names) ((aa n (List.getD t.parts (Int.toNat (0:Int)) (dfl (Ty.st SN.term))) e).1.parts):Bndg}])).2.err=(ao (aa n) t e).2.err/\(aa n (List.getD t.parts (Int.toNat (1:Int)) (dfl (Ty.st SN.term))) (bO e [{pkg:=[],name:=t.name,shape:=AL.Shape.mk ((aa n (List.getD t.parts (Int.toNat (0:Int)) (dfl (Ty.st SN.term))) e).1.kind) ((aa n (List.getD t.parts (Int.toNat (0:Int)) (dfl (Ty.st SN.term))) e).1.pkg) ((aa n (List.getD t.parts (Int.toNat (0:Int)) (dfl (Ty.st SN.term))) e).1.name) ((aa n (List.getD t.parts (Int.toNat (0:Int)) (dfl (Ty.st SN.term))) e).1.names) ((aa n (List.getD t.parts (Int.toNat (0:Int)) (dfl (Ty.st SN.term))) e).1.parts):Bndg}])).2.pos=(ao (aa n) t e).2.pos/\True else if decide (t.kind=(16:Int))=true then ((0:Nat) < List.length t.parts/\szT t<=n+(1:Nat)/\allT ag t=true/\List.length e.values+(4096:Nat) *szT t<=(100000000:Nat))/\True/\(cJ (aa n) t e).1=(ao (aa n) t e).1/\(cJ (aa n) t e).2.err=(ao (aa n) t e).2.err/\(cJ (aa n) t e).2.pos=(ao (aa n) t e).2.pos/\True else if decide (t.kind=(17:Int))=true then ((0:Nat) < List.length t.parts/\szT t<=n+(1:Nat)
  /\allT ag t=true/\List.length e.values+(4096:Nat) *szT t<=(100000000:Nat))/\True/\(cJ (aa n) t e).1=(ao (aa n) t e).1/\(cJ (aa n) t e).2.err=(ao (aa n) t e).2.err/\(cJ (aa n) t e).2.pos=(ao (aa n) t e).2.pos/\True else ((t.kind=(6:Int)∨t.kind=(11:Int)∨t.kind=(12:Int)∨t.kind=(13:Int)∨t.kind=(15:Int))/\szT t<=n+(1:Nat)/\allT ag t=true/\List.length e.values+(4096:Nat) *szT t<=(100000000:Nat))/\True/\(aG (aa n) t e).1=(ao (aa n) t e).1/\(aG (aa n) t e).2.err=(ao (aa n) t e).2.err/\(aG (aa n) t e).2.pos=(ao (aa n) t e).2.pos/\True:=by
 have rm:=yQ hf
 have ln:=ht.term_parts.len
 have ps:=uh t
 have e0:Int.toNat 0=0:=rfl
 have e1:Int.toNat 1=1:=rfl
 have et:∀s:Shape,AL.Shape.mk s.kind s.pkg s.name s.names s.parts=s:=fun s=>by cases s;rfl
 simp only [e0,e1,et,Int.toNat_natCast,eq_self,true_and,and_true]
 have nx:∀{j w:Nat},j < t.parts.length→w<=e.values.length+4096→szT (t.parts.getD j (dfl (.st .term)))<=n/\allT ag (t.parts.getD j (dfl (.st .term)))=true/\w+4096 *szT (t.parts.getD j (dfl (.st .term)))<=100000000:=fun hj hw=>sq hz hf hv _ hj hw
 refine ab (fun k=>?_) (fun k1=>?_)
 ·have k:=Xo k
  rw [show ao (aa n) t e=(ofK 1,di) by unfold ao;simp [k]]
  exact ⟨rfl,rfl,rfl⟩
 have k1:¬t.kind=1:=fun q=>k1 (Xd q)
 refine ab (fun k=>?_) (fun k2=>?_)
 ·have k:=Xo k
  rw [show ao (aa n) t e=(ofK 3,di) by unfold ao;simp [k]]
  exact ⟨rfl,rfl,rfl⟩
 have k2:¬t.kind=2:=fun q=>k2 (Xd q)
 refine ab (fun k=>?_) (fun k3=>?_)
 ·have k:=Xo k
  rw [show ao (aa n) t e=(ofK 2,di) by unfold ao;simp [k]]
  exact ⟨rfl,rfl,rfl⟩
 have k3:¬t.kind=3:=fun q=>k3 (Xd q)
 refine ⟨by rw [Xf k3,Bool.false_or],ab (fun k=>?_) (fun k4=>?_)⟩
 ·have k:t.kind=4:=by rw [Xf k3,Bool.false_or] at k;exact Xo k
  rw [show ao (aa n) t e=(ofK 2,di) by unfold ao;simp [k]]
  exact ⟨rfl,rfl,rfl⟩
 have k4:¬t.kind=4:=fun q=>k4 (by rw [Xd q,Bool.or_true])
 refine ab (fun k=>?_) (fun k5=>?_)
 ·have k:=Xo k
  have hN:bg e.values t.pkg t.name=none→ao (aa n) t e=(aq,⟨110,t.pos⟩):=fun g=>by unfold ao;simp [k,g]
  have hS:∀s,bg e.values t.pkg t.name=some s→ao (aa n) t e=(b6 s,di):=fun s g=>by unfold ao;simp [k,g]
  cases g:bg e.values t.pkg t.name with
  | none=>rw [hN g];exact ab (fun _=>⟨rfl,rfl,rfl⟩) (fun q=>absurd rfl q)
  | some s=>rw [hS s g];exact ab (fun q=>absurd q Bool.false_ne_true) (fun _=>⟨rfl,rfl,rfl⟩)
 have k5:¬t.kind=5:=fun q=>k5 (Xd q)
 refine ab (fun k=>?_) (fun k7=>?_)
 ·have k:=Xo k
  rw [show ao (aa n) t e=bP (aa n) t e by unfold ao;simp [k]]
  exact ⟨⟨rm.k7 k,hz,hf,hv⟩,rfl,rfl,rfl⟩
 have k7:¬t.kind=7:=fun q=>k7 (Xd q)
 refine ab (fun k=>?_) (fun k8=>?_)
 ·have k:=Xo k
  have hP:ao (aa n) t e=if (cb (aa n) e t.parts).2.2.err=0 then (⟨6,[],[],t.names,(cb (aa n) e t.parts).1⟩,di) else (cb (aa n) e t.parts).2:=by unfold ao;simp [k]
  refine ⟨⟨(0,[]),⟨Nat.zero_le _,rfl,by rw [List.drop_zero];rfl⟩,rfl,rfl,rfl⟩,?_⟩
  rintro ⟨j,q⟩ ⟨h1,h2,h3⟩
  dsimp only at h1 h2 h3 ⊢
  refine ab (fun c=>?_) (fun c=>?_)
  ·have c:=Xo c
   have hj:j < t.parts.length:=by omega
   rw [aE t.parts j (dfl (.st .term)) hj] at h3
   simp only [cb] at h3
   refine ⟨by omega,nx hj (Nat.le_add_right _ _),ab (fun f=>?_) (fun f=>?_)⟩
   ·have f:=ndF f
    rw [if_neg f] at h3
    rw [hP,h3,if_neg (show ¬(q++[],aa n (t.parts.getD j (dfl (.st .term))) e).2.2.err=0 from f)]
    exact ⟨rfl,rfl,rfl⟩
   ·have f:=ndT f
    rw [if_pos f] at h3
    refine ⟨by simp only [List.length_cons,List.length_nil];omega,aK hj ln,(j+1,q++[_]),⟨by dsimp only;omega,by simp [h2],?_⟩,by dsimp only;omega,by dsimp only;omega,rfl,rfl⟩
    dsimp only
    rw [h3,List.append_assoc]
    rfl
  ·have c:¬((j:Int) < (t.parts.length:Int)):=fun q=>c (Xd q)
   have hj:j=t.parts.length:=by omega
   rw [hj,List.drop_length] at h3
   simp only [cb,List.append_nil] at h3
   rw [hP,h3]
   exact ⟨rfl,rfl,rfl,rfl,rfl,rfl,rfl⟩
 have k8:¬t.kind=8:=fun q=>k8 (Xd q)
 refine ab (fun k=>?_) (fun k9=>?_)
 ·have k:=Xo k
  rw [show ao (aa n) t e=bR (aa n) t e by unfold ao;simp [k]]
  have:=rm.k1 (by omega)
  exact ⟨⟨by omega,hz,hf,hv⟩,rfl,rfl,rfl⟩
 have k9:¬t.kind=9:=fun q=>k9 (Xd q)
 refine ab (fun k=>?_) (fun k10=>?_)
 ·have k:=Xo k
  rw [show ao (aa n) t e=(⟨7,[],[],[t.name],[(aa n (t.parts.getD 0 aC) e).1]⟩,(aa n (t.parts.getD 0 aC) e).2) by unfold ao;simp [k]]
  have:=rm.k1 (by omega)
  exact ⟨by omega,nx (by omega) (Nat.le_add_right _ _),rfl,rfl,rfl,rfl,rfl,rfl,rfl⟩
 have k10:¬t.kind=10:=fun q=>k10 (Xd q)
 refine ab (fun k=>?_) (fun k14=>?_)
 ·have k:=Xo k
  rw [show ao (aa n) t e=(if (aa n (t.parts.getD 0 aC) e).2.err=0 then aa n (t.parts.getD 1 aC) (bO e [mY t.name (aa n (t.parts.getD 0 aC) e).1]) else aa n (t.parts.getD 0 aC) e) by unfold ao;simp [k]]
  have:=rm.k14 k
  refine ⟨by omega,nx (by omega) (Nat.le_add_right _ _),ab (fun f=>?_) (fun f=>?_)⟩
  ·rw [if_neg (show ¬(aa n (t.parts.getD 0 aC) e).2.err=0 from ndF f)]
   exact ⟨rfl,rfl,rfl⟩
  ·rw [if_pos (show (aa n (t.parts.getD 0 aC) e).2.err=0 from ndT f)]
   refine ⟨by omega,⟨by omega,by simp⟩,?_,rfl,rfl,rfl⟩
   rw [List.length_append]
   exact nx (by omega) (by simp)
 have k14:¬t.kind=14:=fun q=>k14 (Xd q)
 refine ab (fun k=>?_) (fun k16=>?_)
 ·have k:=Xo k
  rw [show ao (aa n) t e=cJ (aa n) t e by unfold ao;simp [k]]
  have:=rm.k1 (by omega)
  exact ⟨⟨by omega,hz,hf,hv⟩,rfl,rfl,rfl⟩
 have k16:¬t.kind=16:=fun q=>k16 (Xd q)
 refine ab (fun k=>?_) (fun k17=>?_)
 ·have k:=Xo k
  rw [show ao (aa n) t e=cJ (aa n) t e by unfold ao;simp [k]]
  have:=rm.k1 (by omega)
  exact ⟨⟨by omega,hz,hf,hv⟩,rfl,rfl,rfl⟩
 have k17:¬t.kind=17:=fun q=>k17 (Xd q)
 have ka:=rm.all
 rw [show ao (aa n) t e=aG (aa n) t e by unfold ao;simp [k1,k2,k3,k4,k5,k7,k8,k9,k10,k14,k16,k17]]
 exact ⟨⟨by omega,hz,hf,hv⟩,rfl,rfl,rfl⟩
theorem CZ (t:Trm) (e:Envt) (ht:Wf (.st .term) t) (he:Wf (.st .env) e) (ho:bL t=true/\e.values.length<=1000000) :
  bL t=true/\if (!decide (ba t=(0:Int)))=true then True/\(0:Int)=(cD t e).1.kind/\[]=(cD t e).1.pkg/\[]=(cD t e).1.name/\(cD t e).1.names=[]/\(cD t e).1.parts=[]/\ba t=(cD t e).2.err/\(0:Int)=(cD t e).2.pos/\True else (szT t<=szT t/\allT ag t=true/\List.length e.values+(4096:Nat) *szT t<=(100000000:Nat))/\True/\(aa (szT t) t e).1=(cD t e).1/\(aa (szT t) t e).2.err=(cD t e).2.err/\(aa (szT t) t e).2.pos=(cD t e).2.pos/\True:=by
 obtain ⟨h1,h2⟩:=ho
 refine ⟨h1,ab (fun h=>?_) (fun h=>?_)⟩
 ·have h:=ndF h
  rw [show cD t e=(aq,⟨ba t,0⟩) by unfold cD;rw [if_neg h]]
  exact ⟨trivial,rfl,rfl,rfl,rfl,rfl,rfl,rfl,trivial⟩
 ·have h:=ndT h
  rw [show cD t e=aa (szT t) t e by unfold cD;rw [if_pos h]]
  have:=(wZ h).1
  exact ⟨⟨Nat.le_refl _,pk h,by omega⟩,trivial,rfl,rfl,rfl,trivial⟩
theorem xt (t:Trm) (ht:Wf (.st .term) t) :
  (szT t<=szT t/\(0:Int)<=(300:Int)/\(300:Int)<=(1000000:Int))/\True/\decide (cW t (300:Int)<=(300:Int))=decide (cW t (300:Int)<=(300:Int))/\True:=by
 exact ⟨⟨Nat.le_refl _,by decide,by decide⟩,trivial,rfl,trivial⟩
end Go.AL.Seat
end
section
open Go Go.AL Go.Proofs Go.Shelf Go.Pd
namespace Go.AL.Seat
open Go.Proofs.Tryz
variable [Tabs]
variable [SeatLaid]
theorem mj:ak prog 123 (p1 (.int .u8) fun c=>.ret (.bool (bQ c))):=
 b9 (ee func123) fun c _ _=>g0 sn a0 func123 (CD c)
theorem ml:ak prog 124 (p1 (.int .u8) fun c=>.ret (.bool (bV c))):=
 b9 (ee func124) fun c _ _=>g0 sn a0 func124 (CE c)
theorem AM:ak prog 127 (p1 (.int .u8) fun c=>.ret (.bool (eU c))):=
 b9 (ee func127) fun c _ _=>g0 sn a0 func127 (CF c)
theorem uN:ak prog 125 (p1 (.int .u8) fun c=>.ret (.bool (dD c))):=
 b9 (ee func125) fun c _ _=>g0 (sc mj (sc ml (sc AM sn))) a0 func125 (Ed c)
theorem xu:ak prog 166 (pf .str 123 fun s=>.ret (.bool (bW bQ s))):=
 mK (ee func166) fun s hs _=>g0 (sc mj (sc ml (sc uN sn))) ⟨[(4,fun S0=>⟨Nat,fun k=>k<=s.length/\bW bQ s=(s.drop k).all fun c=>dD (bI c),fun k=>[(22,.int .i64 k)],fun _=>[],fun k=>s.length - k⟩)],[],[]⟩ func166 (Al s hs)
theorem xw:ak prog 166 (pf .str 124 fun s=>.ret (.bool (bW bV s))):=
 mK (ee func166) fun s hs _=>g0 (sc mj (sc ml (sc uN sn))) ⟨[(4,fun S0=>⟨Nat,fun k=>k<=s.length/\bW bV s=(s.drop k).all fun c=>dD (bI c),fun k=>[(22,.int .i64 k)],fun _=>[],fun k=>s.length - k⟩)],[],[]⟩ func166 (Am s hs)
theorem D0:ak prog 126 (p1 .str fun s=>.ret (.bool (cZ s))):=
 b9 (ee func126) fun s _ _=>g0 sn a0 func126 (Ee s)
theorem lF:ak prog 100 (p1 .str fun s=>.ret (.bool (ay s))):=
 b9 (ee func100) fun s _ _=>g0 (sc xu (sc D0 sn)) a0 func100 (Ef s)
theorem qP:ak prog 103 (p1 .str fun s=>.ret (.bool (aQ s))):=
 b9 (ee func103) fun s _ _=>g0 (sc xw sn) a0 func103 (CG s)
theorem pC:ak prog 145 (p2 (.lst .str) .str fun a v=>.ret (.int .i64 (bX a v 0))):=
 cG (ee func145) fun a v ha _ _=>g0 sn ⟨[(2,fun S0=>⟨Nat,fun k=>k<=a.length/\bX a v 0=bX (a.drop k) v k,fun k=>[(8,.int .i64 k)],fun _=>[],fun k=>a.length - k⟩)],[],[]⟩ func145 (Ao a v ha)
theorem AN:ak prog 110 (p1 .str fun s=>.ret (.bool (gI s))):=
 b9 (ee func110) fun s _ _=>g0 sn a0 func110 (CH s)
theorem pD:ak prog 168 (p1 (.lst .str) fun a=>⟨none,none,.fn 226 [.ptr 1 0],[(1,.box (.lst .str a none))]⟩):=
 b9 (ee func168) fun a _ _=>g0 sn a0 func168 (Ap a)
theorem AO:ak prog 109 (p1 (.st .shape) fun s=>⟨some (s.parts.length *16<=140737488355328),none,.bool (ct s),[]⟩):=
 b9 (ee func109) fun s hs ho=>g0 (sc lF (sc pD (sc (kP) (sc (jK) sn)))) ⟨[(4,fun S0=>⟨Nat,fun k=>k<=s.names.length/\s.names.length=s.parts.length/\ct s=(((s.names.drop k).all ay) && decide s.names.Nodup),fun k=>[(16,.int .i64 k)],fun _=>[],fun k=>s.names.length - k⟩)],[],[]⟩ func109 (CI s hs (ho _ rfl))
theorem D1:ak prog 60 (p1 (.st .shape) fun s=>⟨some (s.parts.length *16<=140737488355328),none,.bool (aj s),[]⟩):=
 b9 (ee func60) fun s hs ho=>g0 (sc AO (sc qP (sc lF (sc AN sn)))) a0 func60 (Eg s hs (ho _ rfl))
theorem pE:aD prog 40:=ee func40
theorem qk (n:Nat) (s:AL.Shape) (hs:Wf (.st .shape) s) (hn:sz s<=n+1) (hb:n<=1000000) (hA:ak prog 40 (pf (.st .shape) 60 fun s=>⟨some (sz s<=n),none,.bool (allS aj s),[]⟩)):ax prog 40 [.st .shape s,.fn 60 []] [] (.ret (.bool (allS aj s))):=
 g0 (sc D1 (sc (hA) sn)) ⟨[(4,fun S0=>⟨Nat,fun k=>k<=s.parts.length/\allS aj s=allL aj (s.parts.drop k),fun k=>[(14,.int .i64 k)],fun _=>[],fun k=>s.parts.length - k⟩)],[],[]⟩ func40 (xj n s hs hn hb)
theorem uO:∀n:Nat,n<=1000000→ak prog 40 (pf (.st .shape) 60 fun s=>⟨some (sz s<=n),none,.bool (allS aj s),[]⟩):=by
 intro n
 induction n with
 | zero=>exact fun _=>mK pE fun a hs ho=>absurd (ho _ rfl) (by have:=dT a;omega)
 | succ n ih=>exact fun hb=>mK pE fun a hs ho=>qk n a hs (ho _ rfl) (by omega) (ih (by omega))
theorem qQ:aD prog 42:=ee func42
theorem sw (n:Nat) (s:AL.Shape) (hs:Wf (.st .shape) s) (hn:sz s<=n+1) (ho:allS dt s=true) (hb:n<=1000000) (hA:ak prog 42 (p1 (.st .shape) fun s=>⟨some (sz s<=n/\allS dt s=true),none,.st .shape (sortedS s),[]⟩)):ax prog 42 [.st .shape s] [] (.ret (.st .shape (sortedS s))):=
 g0 (sc (lE) (sc (hA) sn)) ⟨[(4,fun S0=>⟨Nat,fun k=>k<=s.parts.length,fun k=>[(21,.int .i64 k)],fun k=>[(18,.box (.row (.int .i64) (cm k++List.replicate (s.parts.length - k) 0)))],fun k=>s.parts.length - k⟩),(11,fun S0=>⟨Nat,fun k=>k<=s.parts.length,fun k=>[(38,.int .i64 k)],fun k=>[(3,.box (.agg [.int .i64 s.kind,.str s.pkg,.str s.name,.lst .str (if s.names=[] then [] else (al s |>.take k).map (cP s.names)) (some 701),.lst (.st .shape) ((al s |>.take k).map fun i=>(sortedL s.parts).getD i.toNat dW) (some 702)])),(18,.box (.row (.int .i64) (al s))),(701,.tail .str (if s.names=[] then [] else (al s |>.take k).map (cP s.names)).length),(702,.tail (.st .shape) k)],fun k=>s.parts.length - k⟩)],[],[]⟩ func42 (Aq n s hs hn ho hb)
theorem xx:∀n:Nat,n<=1000000→ak prog 42 (p1 (.st .shape) fun s=>⟨some (sz s<=n/\allS dt s=true),none,.st .shape (sortedS s),[]⟩):=by
 intro n
 induction n with
 | zero=>exact fun _=>b9 qQ fun a hs ho=>absurd (ho _ rfl).1 (by have:=dT a;omega)
 | succ n ih=>exact fun hb=>b9 qQ fun a hs ho=>sw n a hs (ho _ rfl).1 (ho _ rfl).2 (by omega) (ih (by omega))
theorem gr:ak prog 39 (p1 (.st .shape) fun s=>.ret (.int .i64 (aA s))):=
 b9 (ee func39) fun s _ _=>g0 (sc (qO) (sc (uO 400 (by decide)) sn)) a0 func39 (CJ s)
theorem jM:ak prog 24 (p1 (.st .shape) fun s=>.ret (.st .shape (b6 s))):=
 b9 (ee func24) fun s _ _=>g0 (sc gr (sc (xx 400 (by decide)) sn)) a0 func24 (Eh s)
theorem yT:aD prog 33:=ee func33
theorem xy (n:Nat) (s:AL.Shape) (m:Int) (hs:Wf (.st .shape) s) (ho:sz s<=n+1/\0<=m/\m<=1000000) (hA:ak prog 33 (p2 (.st .shape) (.int .i64) fun s m=>⟨some (sz s<=n/\0<=m/\m<=1000000),none,.int .i64 (sizeF s m),[]⟩)):ax prog 33 [.st .shape s,.int .i64 m] [] (.ret (.int .i64 (sizeF s m))):=
 g0 (sc (hA) sn) ⟨[(3,fun S0=>⟨Nat × Int,fun x=>x.1<=s.parts.length/\1<=x.2/\x.2<=m+1/\sizeL (s.parts.drop x.1) x.2 m=sizeF s m,fun x=>[(5,.int .i64 x.2),(6,.int .i64 x.1)],fun _=>[],fun x=>s.parts.length - x.1⟩)],[],[]⟩ func33 (Ei n s m hs ho)
theorem uP:∀n:Nat,ak prog 33 (p2 (.st .shape) (.int .i64) fun s m=>⟨some (sz s<=n/\0<=m/\m<=1000000),none,.int .i64 (sizeF s m),[]⟩):=by
 intro n
 induction n with
 | zero=>exact cG yT fun a m _ _ ho=>absurd (ho _ rfl).1 (by have:=dT a;omega)
 | succ n ih=>exact cG yT fun a m ha _ ho=>xy n a m ha (ho _ rfl) ih
theorem qR:aD prog 14:=ee func14
theorem sx (n:Nat) (a b:Shape) (ha:Wf (.st .shape) a) (hb:Wf (.st .shape) b) (hn:sz a<=n+1) (hA:ak prog 14 (p2 (.st .shape) (.st .shape) fun a b=>⟨some (sz a<=n),none,.bool (eqS a b),[]⟩)):ax prog 14 [.st .shape a,.st .shape b] [] (.ret (.bool (eqS a b))):=
 g0 (sc (hA) sn) ⟨[(4,fun S0=>⟨Nat,fun k=>k<=a.names.length/\a.names.length=b.names.length/\a.parts.length=b.parts.length/\eqS a b=(decide (a.names.drop k=b.names.drop k) && eqL a.parts b.parts),fun k=>[(5,.int .i64 k)],fun _=>[],fun k=>a.names.length - k⟩),(9,fun S0=>⟨Nat,fun k=>k<=a.parts.length/\a.parts.length=b.parts.length/\eqS a b=eqL (a.parts.drop k) (b.parts.drop k),fun k=>[(6,.int .i64 k)],fun _=>[],fun k=>a.parts.length - k⟩)],[],[]⟩ func14 (Ar n a b ha hb hn)
theorem xz:∀n:Nat,ak prog 14 (p2 (.st .shape) (.st .shape) fun a b=>⟨some (sz a<=n),none,.bool (eqS a b),[]⟩):=by
 intro n
 induction n with
 | zero=>exact cG qR fun a b _ _ ho=>absurd (ho _ rfl) (by have:=dT a;omega)
 | succ n ih=>exact cG qR fun a b ha hb ho=>sx n a b ha hb (ho _ rfl) ih
theorem sy (l:List Bndg) (N:Nat) (hl:Wf (.lst (.st .bind)) l) (hN:∀x∈l,sz x.shape<=N) :ax prog 15 [.lst (.st .bind) l none] [] (.ret (.bool (gK l))):=
 g0 (sc (uP N) sn) ⟨[(4,fun S0=>⟨Nat,fun k=>k<=l.length/\mU (l.drop k)=gK l,fun k=>[(3,.int .i64 k)],fun _=>[],fun k=>l.length - k⟩)],[],[]⟩ func15 (As l N hl hN)
theorem xA:ak prog 15 (p1 (.lst (.st .bind)) fun l=>.ret (.bool (gK l))):=
 b9 (ee func15) fun l hl _=>sy l (szB l) hl (Cp l)
theorem uQ:ak prog 9 (p1 (.st .env) fun e=>.ret (.bool (j6 e))):=
 b9 (ee func9) fun e he _=>g0 (sc xA sn) a0 func9 (xk e he)
theorem uR:ak prog 16 (p2 (.st .env) (.lst (.st .bind)) fun e l=>⟨some (e.values.length<=1000000000/\l.length<=1000),none,.st .env (bO e l),[]⟩):=
 cG (ee func16) fun e l he hl ho=>g0 (sc pB sn) a0 func16 (Ej e l he hl (ho _ rfl))
theorem qS:aD prog 37:=ee func37
theorem sA (n:Nat) (t:Trm) (m:Int) (hs:Wf (.st .term) t) (hz:szT t<=n+1) (h0:0<=m) (h1:m<=1000000) (hA:ak prog 37 (p2 (.st .term) (.int .i64) fun t m=>⟨some (szT t<=n/\0<=m/\m<=1000000),none,.tup [.int .i64 (countT t m).1,.int .i64 (countT t m).2],[]⟩)):ax prog 37 [.st .term t,.int .i64 m] [] (⟨some (szT t<=n+1/\0<=m/\m<=1000000),none,.tup [.int .i64 (countT t m).1,.int .i64 (countT t m).2],[]⟩):=
 g0 (sc (hA) sn) ⟨[(3,fun S0=>⟨Nat × Int × Int,fun y=>y.1<=t.parts.length/\1<=y.2.1/\y.2.1<=m+1/\0<=y.2.2/\y.2.2+1<=y.2.1/\countL (t.parts.drop y.1) m y.2.1 y.2.2=countL t.parts m 1 0,fun y=>[(6,.int .i64 y.2.1),(7,.int .i64 y.2.2),(15,.int .i64 y.1)],fun _=>[],fun y=>t.parts.length - y.1⟩)],[],[]⟩ func37 (Au n t m hs hz h0 h1)
theorem pF:∀n:Nat,ak prog 37 (p2 (.st .term) (.int .i64) fun t m=>⟨some (szT t<=n/\0<=m/\m<=1000000),none,.tup [.int .i64 (countT t m).1,.int .i64 (countT t m).2],[]⟩)
 | 0=>cG qS fun t m hs _ ho=>absurd (ho _ rfl).1 (by have:=du t;omega)
 | n+1=>cG qS fun t m hs _ ho=>sA n t m hs (ho _ rfl).1 (ho _ rfl).2.1 (ho _ rfl).2.2 (pF n)
theorem uS:ak prog 171 (pcl .str 100 fun x=>⟨none,none,.bool (!ay x),[]⟩):=
 sh (ee func171) fun x _ ho=>g0 (sc lF sn) a0 func171 (xl x)
theorem uT:ak prog 227 (pfc (.lst .str) 171 100 fun l=>⟨none,none,.int .i64 (bD ay l 0),[]⟩):=
 jG (ee func227) fun l hl ho=>g0 (sc uS sn) ⟨[(2,fun S0=>⟨Nat,fun k=>k<=l.length/\bD ay (l.drop k) k=bD ay l 0,fun k=>[(8,.int .i64 k)],fun _=>[],fun k=>l.length - k⟩)],[],[]⟩ func227 (xm l hl)
theorem uU:ak prog 170 (pfc (.lst .str) 171 100 fun l=>⟨none,none,.bool (!l.all ay),[]⟩):=
 jG (ee func170) fun l _ ho=>g0 (sc uT sn) a0 func170 (xn l)
theorem qT:ak prog 102 (pf (.lst .str) 100 fun l=>⟨none,none,.bool (l.all ay),[]⟩):=
 mK (ee func102) fun l _ ho=>g0 (sc uU sn) a0 func102 (CK l)
theorem AP:ak prog 101 (p1 (.lst .str) fun l=>⟨some (l.length *16<=140737488355328),none,.bool (l.all ay && decide l.Nodup),[]⟩):=
 b9 (ee func101) fun l _ ho=>g0 (sc pD (sc (kP) (sc qT (sc (jK) sn)))) a0 func101 (CL l (ho _ rfl))
theorem xB:aD prog 163:=ee func163
theorem ql (n:Nat) (x:Shape)  (ho:sz x<=n) (hA:ak prog 164 (p1 (.st .shape) fun s=>⟨some (sz s<=n),none,.bool (allS aT s),[]⟩)):ax prog 163 [.st .shape x,.ptr 900 0] [(900,.box (.fn 164 []))] (⟨some (sz x<=n),none,.bool (!(allS aT) x),[]⟩):=
 g0 (sc (hA) sn) a0 func163 (xo n x ho)
theorem uV (n:Nat) (hA:ak prog 164 (p1 (.st .shape) fun s=>⟨some (sz s<=n),none,.bool (allS aT s),[]⟩)):ak prog 163 (pcl (.st .shape) 164 fun x=>⟨some (sz x<=n),none,.bool (!(allS aT) x),[]⟩):=
 sh xB fun x _ ho=>ql n x (ho _ rfl) hA
theorem xC:aD prog 222:=ee func222
theorem qm (n:Nat) (l:List AL.Shape)  (hl:Wf (.lst (.st .shape)) l) (ho:∀x∈l,sz x<=n) (hA:ak prog 164 (p1 (.st .shape) fun s=>⟨some (sz s<=n),none,.bool (allS aT s),[]⟩)):ax prog 222 [.lst (.st .shape) l none,.fn 163 [.ptr 900 0]] [(900,.box (.fn 164 []))] (⟨some (∀x∈l,sz x<=n),none,.int .i64 (bD (allS aT) l 0),[]⟩):=
 g0 (sc ((uV n hA)) sn) ⟨[(2,fun S0=>⟨Nat,fun k=>k<=l.length/\bD (allS aT) (l.drop k) k=bD (allS aT) l 0,fun k=>[(8,.int .i64 k)],fun _=>[],fun k=>l.length - k⟩)],[],[]⟩ func222 (xp n l hl ho)
theorem uW (n:Nat) (hA:ak prog 164 (p1 (.st .shape) fun s=>⟨some (sz s<=n),none,.bool (allS aT s),[]⟩)):ak prog 222 (pfc (.lst (.st .shape)) 163 164 fun l=>⟨some (∀x∈l,sz x<=n),none,.int .i64 (bD (allS aT) l 0),[]⟩):=
 jG xC fun l hl ho=>qm n l hl (ho _ rfl) hA
theorem xD:aD prog 162:=ee func162
theorem qn (n:Nat) (l:List AL.Shape)  (ho:∀x∈l,sz x<=n) (hA:ak prog 164 (p1 (.st .shape) fun s=>⟨some (sz s<=n),none,.bool (allS aT s),[]⟩)):ax prog 162 [.lst (.st .shape) l none,.fn 163 [.ptr 900 0]] [(900,.box (.fn 164 []))] (⟨some (∀x∈l,sz x<=n),none,.bool (!l.all (allS aT)),[]⟩):=
 g0 (sc ((uW n hA)) sn) a0 func162 (xq n l ho)
theorem uX (n:Nat) (hA:ak prog 164 (p1 (.st .shape) fun s=>⟨some (sz s<=n),none,.bool (allS aT s),[]⟩)):ak prog 162 (pfc (.lst (.st .shape)) 163 164 fun l=>⟨some (∀x∈l,sz x<=n),none,.bool (!l.all (allS aT)),[]⟩):=
 jG xD fun l _ ho=>qn n l (ho _ rfl) hA
theorem D2:aD prog 97:=ee func97
theorem uY (n:Nat) (l:List AL.Shape)  (ho:∀x∈l,sz x<=n) (hA:ak prog 164 (p1 (.st .shape) fun s=>⟨some (sz s<=n),none,.bool (allS aT s),[]⟩)):ax prog 97 [.lst (.st .shape) l none,.fn 164 []] [] (⟨some (∀x∈l,sz x<=n),none,.bool (l.all (allS aT)),[]⟩):=
 g0 (sc ((uX n hA)) sn) a0 func97 (CM n l ho)
theorem AQ (n:Nat) (hA:ak prog 164 (p1 (.st .shape) fun s=>⟨some (sz s<=n),none,.bool (allS aT s),[]⟩)):ak prog 97 (pf (.lst (.st .shape)) 164 fun l=>⟨some (∀x∈l,sz x<=n),none,.bool (l.all (allS aT)),[]⟩):=
 mK D2 fun l _ ho=>uY n l (ho _ rfl) hA
theorem yU:aD prog 164:=ee func164
theorem xE (n:Nat) (s:AL.Shape) (ho:sz s<=n+1) (hE:ak prog 97 (pf (.lst (.st .shape)) 164 fun l=>⟨some (∀x∈l,sz x<=n),none,.bool (l.all (allS aT)),[]⟩)):ax prog 164 [.st .shape s] [] (⟨some (sz s<=n+1),none,.bool (allS aT s),[]⟩):=
 g0 (sc (hE) sn) a0 func164 (Ek n s ho)
theorem uZ:∀n:Nat,ak prog 164 (p1 (.st .shape) fun s=>⟨some (sz s<=n),none,.bool (allS aT s),[]⟩)
 | 0=>b9 yU fun s _ ho=>absurd (ho _ rfl) (by have:=dT s;omega)
 | n+1=>b9 yU fun s _ ho=>xE n s (ho _ rfl) (AQ n (uZ n))
theorem xF:ak prog 98 (p1 (.st .shape) fun s=>.ret (.bool (decide (aA s=0) && allS aT s))):=
 b9 (ee func98) fun s _ _=>g0 (sc gr (sc (uZ 400) sn)) a0 func98 (Av s)
theorem Eu:ak prog 96 (p1 (.st .term) fun t=>.ret (.agg [.int .i64 (t.names.length:Int),.int .i64 (t.vars.length:Int),.int .i64 (t.shapes.length:Int),.int .i64 (t.parts.length:Int)])):=
 b9 (ee func96) fun t _ _=>g0 sn a0 func96 (Fj t)
theorem AR:ak prog 99 (p1 .str fun s=>.ret (.bool (fL s))):=
 b9 (ee func99) fun s hs _=>g0 (sc (A2) sn) ⟨[(2,fun S0=>⟨Nat,fun k=>k<=s.length/\(s.all bZ)=(s.drop k).all bZ,fun k=>[(8,.int .i64 k)],fun _=>[],fun k=>s.length - k⟩)],[],[]⟩ func99 (CN s hs)
theorem sB:ak prog 163 (pcl (.st .shape) 98 fun x=>⟨none,none,.bool (!bf x),[]⟩):=
 sh (ee func163) fun x _ ho=>g0 (sc xF sn) a0 func163 (uG x)
theorem sC:ak prog 222 (pfc (.lst (.st .shape)) 163 98 fun l=>⟨none,none,.int .i64 (bD bf l 0),[]⟩):=
 jG (ee func222) fun l hl ho=>g0 (sc sB sn) ⟨[(2,fun S0=>⟨Nat,fun k=>k<=l.length/\bD bf (l.drop k) k=bD bf l 0,fun k=>[(8,.int .i64 k)],fun _=>[],fun k=>l.length - k⟩)],[],[]⟩ func222 (uH l hl)
theorem sD:ak prog 162 (pfc (.lst (.st .shape)) 163 98 fun l=>⟨none,none,.bool (!l.all bf),[]⟩):=
 jG (ee func162) fun l _ ho=>g0 (sc sC sn) a0 func162 (uI l)
theorem xG:ak prog 97 (pf (.lst (.st .shape)) 98 fun l=>⟨none,none,.bool (l.all bf),[]⟩):=
 mK (ee func97) fun l _ ho=>g0 (sc sD sn) a0 func97 (Aw l)
theorem AT:ak prog 57 (p1 (.st .term) fun t=>⟨some (t.names.length<=8796093022208),none,.bool (ag t),[]⟩):=
 b9 (ee func57) fun t ht ho=>g0 (sc Eu (sc xG (sc AR (sc lF (sc AP (sc qT (sc qP sn))))))) ⟨[],[],[(2,fun S0=>⟨[(34,.bool (!dK t))],[]⟩)]⟩ func57 (CO t ht (ho _ rfl))
theorem vb:aD prog 105:=ee func105
theorem pG (n:Nat) (x:Trm)  (ho:szT x<=n/\bL x=true) (hA:ak prog 38 (p1 (.st .term) fun t=>⟨some (szT t<=n/\bL t=true),none,.bool (allT ag t),[]⟩)):ax prog 105 [.st .term x,.ptr 900 0] [(900,.box (.fn 38 []))] (⟨some (szT x<=n/\bL x=true),none,.bool (!(allT ag) x),[]⟩):=
 g0 (sc (hA) sn) a0 func105 (uJ n x ho)
theorem sE (n:Nat) (hA:ak prog 38 (p1 (.st .term) fun t=>⟨some (szT t<=n/\bL t=true),none,.bool (allT ag t),[]⟩)):ak prog 105 (pcl (.st .term) 38 fun x=>⟨some (szT x<=n/\bL x=true),none,.bool (!(allT ag) x),[]⟩):=
 sh vb fun x _ ho=>pG n x (ho _ rfl) hA
theorem vc:aD prog 172:=ee func172
theorem pH (n:Nat) (l:List Trm)  (hl:Wf (.lst (.st .term)) l) (ho:∀x∈l,szT x<=n/\bL x=true) (hA:ak prog 38 (p1 (.st .term) fun t=>⟨some (szT t<=n/\bL t=true),none,.bool (allT ag t),[]⟩)):ax prog 172 [.lst (.st .term) l none,.fn 105 [.ptr 900 0]] [(900,.box (.fn 38 []))] (⟨some (∀x∈l,szT x<=n/\bL x=true),none,.int .i64 (bD (allT ag) l 0),[]⟩):=
 g0 (sc ((sE n hA)) sn) ⟨[(2,fun S0=>⟨Nat,fun k=>k<=l.length/\bD (allT ag) (l.drop k) k=bD (allT ag) l 0,fun k=>[(8,.int .i64 k)],fun _=>[],fun k=>l.length - k⟩)],[],[]⟩ func172 (uK n l hl ho)
theorem sF (n:Nat) (hA:ak prog 38 (p1 (.st .term) fun t=>⟨some (szT t<=n/\bL t=true),none,.bool (allT ag t),[]⟩)):ak prog 172 (pfc (.lst (.st .term)) 105 38 fun l=>⟨some (∀x∈l,szT x<=n/\bL x=true),none,.int .i64 (bD (allT ag) l 0),[]⟩):=
 jG vc fun l hl ho=>pH n l hl (ho _ rfl) hA
theorem vd:aD prog 104:=ee func104
theorem pI (n:Nat) (l:List Trm)  (ho:∀x∈l,szT x<=n/\bL x=true) (hA:ak prog 38 (p1 (.st .term) fun t=>⟨some (szT t<=n/\bL t=true),none,.bool (allT ag t),[]⟩)):ax prog 104 [.lst (.st .term) l none,.fn 105 [.ptr 900 0]] [(900,.box (.fn 38 []))] (⟨some (∀x∈l,szT x<=n/\bL x=true),none,.bool (!l.all (allT ag)),[]⟩):=
 g0 (sc ((sF n hA)) sn) a0 func104 (uL n l ho)
theorem sG (n:Nat) (hA:ak prog 38 (p1 (.st .term) fun t=>⟨some (szT t<=n/\bL t=true),none,.bool (allT ag t),[]⟩)):ak prog 104 (pfc (.lst (.st .term)) 105 38 fun l=>⟨some (∀x∈l,szT x<=n/\bL x=true),none,.bool (!l.all (allT ag)),[]⟩):=
 jG vd fun l _ ho=>pI n l (ho _ rfl) hA
theorem AU:aD prog 58:=ee func58
theorem sH (n:Nat) (l:List Trm)  (ho:∀x∈l,szT x<=n/\bL x=true) (hA:ak prog 38 (p1 (.st .term) fun t=>⟨some (szT t<=n/\bL t=true),none,.bool (allT ag t),[]⟩)):ax prog 58 [.lst (.st .term) l none,.fn 38 []] [] (⟨some (∀x∈l,szT x<=n/\bL x=true),none,.bool (l.all (allT ag)),[]⟩):=
 g0 (sc ((sG n hA)) sn) a0 func58 (Ax n l ho)
theorem xH (n:Nat) (hA:ak prog 38 (p1 (.st .term) fun t=>⟨some (szT t<=n/\bL t=true),none,.bool (allT ag t),[]⟩)):ak prog 58 (pf (.lst (.st .term)) 38 fun l=>⟨some (∀x∈l,szT x<=n/\bL x=true),none,.bool (l.all (allT ag)),[]⟩):=
 mK AU fun l _ ho=>sH n l (ho _ rfl) hA
theorem qU:aD prog 38:=ee func38
theorem sI (n:Nat) (t:Trm) (ho:szT t<=n+1/\bL t=true) (hE:ak prog 58 (pf (.lst (.st .term)) 38 fun l=>⟨some (∀x∈l,szT x<=n/\bL x=true),none,.bool (l.all (allT ag)),[]⟩)):ax prog 38 [.st .term t] [] (⟨some (szT t<=n+1/\bL t=true),none,.bool (allT ag t),[]⟩):=
 g0 (sc AT (sc (hE) sn)) a0 func38 (Ay n t ho)
theorem pJ:∀n:Nat,ak prog 38 (p1 (.st .term) fun t=>⟨some (szT t<=n/\bL t=true),none,.bool (allT ag t),[]⟩)
 | 0=>b9 qU fun t _ ho=>absurd (ho _ rfl).1 (by have:=du t;omega)
 | n+1=>b9 qU fun t _ ho=>sI n t (ho _ rfl) (xH n (pJ n))
theorem sJ (x:Trm) (ho:bL x=true) :ax prog 21 [.st .term x] [] (⟨some (bL x=true),none,.int .i64 (ba x),[]⟩):=
 g0 (sc (pF (szT x)) (sc (pJ (szT x)) sn)) a0 func21 (Az x ho)
theorem kT:ak prog 21 (p1 (.st .term) fun t=>⟨some (bL t=true),none,.int .i64 (ba t),[]⟩):=
 b9 (ee func21) fun t _ ho=>sJ t (ho _ rfl)
theorem ve:aD prog 27:=ee func27
theorem vf (n:Nat) (s:Trm) (m:Int) (hs:Wf (.st .term) s) (ho:szT s<=n+1/\0<=m/\m<=1000000) (hA:ak prog 27 (p2 (.st .term) (.int .i64) fun s m=>⟨some (szT s<=n/\0<=m/\m<=1000000),none,.int .i64 (cW s m),[]⟩)):ax prog 27 [.st .term s,.int .i64 m] [] (.ret (.int .i64 (cW s m))):=
 g0 (sc (hA) sn) ⟨[(3,fun S0=>⟨Nat × Int,fun x=>x.1<=s.parts.length/\1<=x.2/\x.2<=m+1/\sizeTL (s.parts.drop x.1) x.2 m=cW s m,fun x=>[(5,.int .i64 x.2),(6,.int .i64 x.1)],fun _=>[],fun x=>s.parts.length - x.1⟩)],[],[]⟩ func27 (CP n s m hs ho)
theorem qV:∀n:Nat,ak prog 27 (p2 (.st .term) (.int .i64) fun s m=>⟨some (szT s<=n/\0<=m/\m<=1000000),none,.int .i64 (cW s m),[]⟩):=by
 intro n
 induction n with
 | zero=>exact cG ve fun a m _ _ ho=>absurd (ho _ rfl).1 (by have:=du a;omega)
 | succ n ih=>exact cG ve fun a m ha _ ho=>vf n a m ha (ho _ rfl) ih
theorem xI:ak prog 273 (p3 (.st .shape) (.st .shape) .bool fun a b f=>.ret (.bool (decide (f=decide (a.kind=6))))):=
 C4 (ee func273) fun a b f _ _ _ _=>g0 sn a0 func273 (AA a b f)
theorem AW:ak prog 251 (p0 ⟨none,none,.ptr 2 0,[(2,.box (.agg [.fn 273 []]))]⟩):=
 EM (ee func251) (g0 sn a0 func251 (CQ))
theorem qW:ak prog 274 (p2 (.st .shape) .str fun s m=>⟨some (aj s=true),none,.pt .shape (bc s m),[]⟩):=
 cG (ee func274) fun s m hs _ ho=>g0 (sc pC sn) a0 func274 (CR s m hs (ho _ rfl))
theorem xJ:ak prog 275 (wR fun m s=>⟨some (aj s=true),none,.bool (bc s m).isNone,[]⟩):=
 A6 (ee func275) fun m s ho=>g0 (sc qW sn) a0 func275 (AB m s (ho _ rfl))
theorem AX:ak prog 250 (p2 (.st .shape) (.st .shape) fun a b=>.ret (.bool (decide (aA a=0) && decide (aA b=0)))):=
 cG (ee func250) fun a b _ _ _=>g0 (sc gr sn) a0 func250 (CS a b)
theorem D3:ak prog 227 (ly 275 fun l s=>⟨some (aj s=true),none,.int .i64 (bD (fun m=>(bc s m).isSome) l 0),[]⟩):=
 mV (ee func227) fun l s hl ho=>g0 (sc xJ sn) ⟨[(2,fun S0=>⟨Nat,fun k=>k<=l.length/\bD (fun m=>(bc s m).isSome) (l.drop k) k=bD (fun m=>(bc s m).isSome) l 0,fun k=>[(8,.int .i64 k)],fun _=>[],fun k=>l.length - k⟩)],[],[]⟩ func227 (El l s hl (ho _ rfl))
theorem D4:ak prog 170 (ly 275 fun l s=>⟨some (aj s=true),none,.bool (!l.all (fun m=>(bc s m).isSome)),[]⟩):=
 mV (ee func170) fun l s _ ho=>g0 (sc D3 sn) a0 func170 (Em l s (ho _ rfl))
theorem vg:aD prog 252:=ee func252
theorem vh (n:Nat) (a b:Shape) (ha:Wf (.st .shape) a) (hb:Wf (.st .shape) b) (hn:sz a+sz b<=n+1) (oa:allS aj a=true) (ob:allS aj b=true) (hA:ak prog 252 (so 273 fun a b=>⟨some (sz a+sz b<=n/\allS aj a=true/\allS aj b=true),none,.bool (b8 n a b),[]⟩)):ax prog 252 [.ptr 900 0,.st .shape a,.st .shape b] [(900,.box (.agg [.fn 273 []]))] (⟨some (sz a+sz b<=n+1/\allS aj a=true/\allS aj b=true),none,.bool (b8 (n+1) a b),[]⟩):=
 g0 (sc xI (sc qW (sc D4 (sc (hA) sn)))) ⟨[(7,fun S0=>⟨Nat,fun k=>k<=a.names.length/\dR (b8 n) (decide (a.kind=7)) b (a.names.drop k) (a.parts.drop k)=dR (b8 n) (decide (a.kind=7)) b a.names a.parts,fun k=>[(54,.int .i64 k)],fun _=>[],fun k=>a.names.length - k⟩),(17,fun S0=>⟨Nat,fun k=>k<=a.parts.length/\b8 (n+1) a b=jd (b8 n) (decide (a.kind=8)) (a.parts.drop k) (b.parts.drop k),fun k=>[(117,.int .i64 k)],fun _=>[],fun k=>a.parts.length - k⟩)],[],[(5,fun S0=>⟨[(42,.bool (decide (a.kind=6) || decide (a.kind=7)))],[]⟩)]⟩ func252 (CT n a b ha hb hn oa ob)
theorem qX:∀n:Nat,ak prog 252 (so 273 fun a b=>⟨some (sz a+sz b<=n/\allS aj a=true/\allS aj b=true),none,.bool (b8 n a b),[]⟩)
 | 0=>qL vg fun a b ha hb ho=>absurd (dT a) (by have:=(ho _ rfl).1;omega)
 | n+1=>qL vg fun a b ha hb ho=>vh n a b ha hb (ho _ rfl).1 (ho _ rfl).2.1 (ho _ rfl).2.2 (qX n)
theorem D5:ak prog 207 (p2 (.st .shape) (.st .shape) fun a b=>.ret (.bool (je a b))):=
 cG (ee func207) fun a b ha hb _=>g0 (sc AX (sc AW (sc (qX 800) sn))) a0 func207 (En a b ha hb)
theorem xK (k:Nam) (v:Shape)  :ax prog 277 [.ptr 900 0,.st .nm k,.st .shape v] [(900,.box (.agg [.nilm]))] (⟨none,none,.tup [],[(900,.box (.map 12)),(12,.map (.st .nm) (.st .shape) (dZ ([]:List (Nam × Shape)) k v))]⟩):=
 g0 sn a0 func277 (Eo k v)
theorem vi:ak prog 277 (wS fun m k v=>match m with | none=>⟨none,none,.tup [],[(900,.box (.map 12)),(12,.map (.st .nm) (.st .shape) (dZ ([]:List (Nam × Shape)) k v))]⟩ | some m=>⟨none,none,.tup [],[(901,.map (.st .nm) (.st .shape) (dZ m k v))]⟩):=
 A7 (ee func277) (fun k v=>xK k v) fun m k v=>g0 sn a0 func277 (Ep m k v)
theorem xL (k:Nam)  :ax prog 276 [.ptr 900 0,.st .nm k] [(900,.box (.agg [.nilm]))] (.ret (.tup [.st .shape ((bj [] k.pkg k.name).getD aq),.bool (bj [] k.pkg k.name).isSome])):=
 g0 sn a0 func276 (Er k)
theorem vj:ak prog 276 (wT fun m k=>.ret (.tup [.st .shape ((bj (m.getD []) k.pkg k.name).getD aq),.bool (bj (m.getD []) k.pkg k.name).isSome])):=
 A8 (ee func276) (fun k=>xL k) fun m k=>g0 sn a0 func276 (Es m k)
theorem vk (n:Nat) (s:AL.Shape) (hs:Wf (.st .shape) s) (hn:sz s<=n+1) (h4:n+1<=400) (os:allS aj s=true) (hA:ak prog 253 (lB fun m s=>⟨some (sz s<=n/\n<=400/\allS aj s=true),none,.tup [.st .shape ((fillS (bj (m.getD [])) s).getD aq),.bool (fillS (bj (m.getD [])) s).isSome],[]⟩)):ax prog 253 [.st .shape s,.ptr 900 0] [(900,.box (.agg [.nilm]))] (⟨some (sz s<=(n+1)/\(n+1)<=400/\allS aj s=true),none,.tup [.st .shape ((fillS (bj []) s).getD aq),.bool (fillS (bj []) s).isSome],[]⟩):=
 g0 (sc vj (sc (hA) (sc (iB) sn))) ⟨[(5,fun S0=>⟨Nat × List AL.Shape,fun x=>x.1<=s.parts.length/\x.2.length=x.1/\fillL (bj []) s.parts=(fillL (bj []) (s.parts.drop x.1)).map (x.2++ ·),fun x=>[(30,.int .i64 x.1),(6,.lst (.st .shape) x.2 (some 26))],fun x=>[(26,.tail (.st .shape) x.2.length)],fun x=>s.parts.length - x.1⟩)],[],[]⟩ func253 (CU n s hs hn h4 os)
theorem vl:aD prog 253:=ee func253
theorem vm (n:Nat) (m:List (Nam × Shape)) (s:AL.Shape) (hs:Wf (.st .shape) s) (hn:sz s<=n+1) (h4:n+1<=400) (os:allS aj s=true) (hA:ak prog 253 (lB fun m s=>⟨some (sz s<=n/\n<=400/\allS aj s=true),none,.tup [.st .shape ((fillS (bj (m.getD [])) s).getD aq),.bool (fillS (bj (m.getD [])) s).isSome],[]⟩)):ax prog 253 [.st .shape s,.ptr 900 0] [(900,.box (.map 901)),(901,.map (.st .nm) (.st .shape) m)] (⟨some (sz s<=(n+1)/\(n+1)<=400/\allS aj s=true),none,.tup [.st .shape ((fillS (bj m) s).getD aq),.bool (fillS (bj m) s).isSome],[]⟩):=
 g0 (sc vj (sc (hA) (sc (iB) sn))) ⟨[(5,fun S0=>⟨Nat × List AL.Shape,fun x=>x.1<=s.parts.length/\x.2.length=x.1/\fillL (bj m) s.parts=(fillL (bj m) (s.parts.drop x.1)).map (x.2++ ·),fun x=>[(30,.int .i64 x.1),(6,.lst (.st .shape) x.2 (some 26))],fun x=>[(26,.tail (.st .shape) x.2.length)],fun x=>s.parts.length - x.1⟩)],[],[]⟩ func253 (CV n m s hs hn h4 os)
theorem kf:∀n:Nat,ak prog 253 (lB fun m s=>⟨some (sz s<=n/\n<=400/\allS aj s=true),none,.tup [.st .shape ((fillS (bj (m.getD [])) s).getD aq),.bool (fillS (bj (m.getD [])) s).isSome],[]⟩)
 | 0=>pd vl (fun s hs ho=>absurd (dT s) (by have:=(ho _ rfl).1;omega)) (fun m s hs ho=>absurd (dT s) (by have:=(ho _ rfl).1;omega))
 | n+1=>pd vl (fun s hs ho=>vk n s hs (ho _ rfl).1 (ho _ rfl).2.1 (ho _ rfl).2.2 (kf n)) (fun m s hs ho=>vm n m s hs (ho _ rfl).1 (ho _ rfl).2.1 (ho _ rfl).2.2 (kf n))
theorem sK   :ax prog 254 [.lst (.st .bind) [] none] [] (⟨none,none,.ptr 7 0,[(7,.box (.agg [.nilm]))]⟩):=
 g0 (sc vi sn) ⟨[(3,fun S0=>⟨Nat,fun _=>True,fun _=>[(10,.int .i64 0)],fun _=>[],fun _=>0⟩)],[],[]⟩ func254 (AD)
theorem pK:ak prog 254 (pe ⟨none,none,.ptr 7 0,[(7,.box (.agg [.nilm]))]⟩ fun b r=>⟨none,none,.ptr 7 0,[(7,.box (.map 701)),(701,.map (.st .nm) (.st .shape) (gU (b ::r)))]⟩):=
 ue (ee func254) sK fun b r hl=>g0 (sc vi sn) ⟨[(3,fun S0=>⟨Nat × List (Nam × Shape),fun x=>x.1<=(b ::r).length/\mW ((b ::r).drop x.1) x.2=gU (b ::r),fun x=>[(10,.int .i64 x.1)],fun x=>[(7,.box (.map 701)),(701,.map (.st .nm) (.st .shape) x.2)],fun x=>(b ::r).length - x.1⟩)],[(200003,[1,13022,701])],[]⟩ func254 (AE b r hl)
theorem pL (s:AL.Shape) (hs:Wf (.st .shape) s) :ax prog 208 [.st .shape s,.lst (.st .bind) [] none] [] (.ret (.tup [.st .shape (au s []).1,.int .i64 (au s []).2])):=
 g0 (sc gr (sc pK (sc (kf 400) (sc jM sn)))) a0 func208 (uM s hs)
theorem vn:ak prog 208 (p2 (.st .shape) (.lst (.st .bind)) fun s l=>.ret (.tup [.st .shape (au s l).1,.int .i64 (au s l).2])):=
 cG (ee func208) fun s l hs hl _=>match l,hl with | [],_=>pL s hs | b ::r,hl=>g0 (sc gr (sc pK (sc (kf 400) (sc jM sn)))) a0 func208 (xr s b r hs hl)
theorem sL:ak prog 53 (p1 (.int .i64) fun k=>.ret (.st .shape (ofK k))):=
 b9 (ee func53) fun k _ _=>g0 sn a0 func53 (Fk k)
theorem dO:ak prog 29 (p2 (.int .i64) (.int .i64) fun e a=>.ret (.agg [.int .i64 e,.int .i64 a])):=
 cG (ee func29) fun e a _ _ _=>g0 sn a0 func29 (AF e a)
theorem AY:ak prog 77 (p3 (.lst (.st .bind)) .str .str fun l o m=>.ret (.tup [.st .shape ((bg l o m).elim aq b6),.bool (bg l o m).isSome])):=
 C4 (ee func77) fun l o m hl _ _ _=>g0 (sc jM sn) ⟨[(2,fun S0=>⟨Nat,fun k=>k<=l.length/\bg l o m=bg (l.take k) o m,fun k=>[(8,.int .i64 ((k:Int) - 1))],fun _=>[],fun k=>k⟩)],[],[]⟩ func77 (CW l o m hl)
theorem qY:aD prog 30:=ee func30
theorem sM (n:Nat) (t:Trm) (e:Envt) (ht:Wf (.st .term) t) (he:Wf (.st .env) e) (hz:szT t<=n+1) (hf:allT ag t=true) (hv:e.values.length+4096 *szT t<=100000000) (hP:ak prog 49 (p2 (.st .term) (.st .env) fun t e=>⟨some (szT t<=n+1/\allT ag t=true/\e.values.length+4096 *szT t<=100000000),none,.tup [.st .shape (ao (aa n) t e).1,.agg [.int .i64 (ao (aa n) t e).2.err,.int .i64 (ao (aa n) t e).2.pos]],[]⟩)):ax prog 30 [.st .term t,.st .env e] [] (⟨some (szT t<=n+1/\allT ag t=true/\e.values.length+4096 *szT t<=100000000),none,.tup [.st .shape (aa (n+1) t e).1,.agg [.int .i64 (aa (n+1) t e).2.err,.int .i64 (aa (n+1) t e).2.pos]],[]⟩):=
 g0 (sc (hP) (sc gr (sc jM (sc dO sn)))) a0 func30 (AG n t e ht he hz hf hv)
theorem D6:aD prog 144:=ee func144
theorem vo (n:Nat) (t:Trm) (w:Shape) (e:Envt) (ht:Wf (.st .term) t) (hw:Wf (.st .shape) w) (he:Wf (.st .env) e) (hz:szT t<=n) (hf:allT ag t=true) (hv:e.values.length+4096 *szT t<=100000000) (hA:ak prog 30 (p2 (.st .term) (.st .env) fun t e=>⟨some (szT t<=n/\allT ag t=true/\e.values.length+4096 *szT t<=100000000),none,.tup [.st .shape (aa n t e).1,.agg [.int .i64 (aa n t e).2.err,.int .i64 (aa n t e).2.pos]],[]⟩)):ax prog 144 [.st .term t,.st .shape w,.st .env e] [] (⟨some (szT t<=n/\allT ag t=true/\e.values.length+4096 *szT t<=100000000),none,.agg [.int .i64 (az (aa n) t w e).err,.int .i64 (az (aa n) t w e).pos],[]⟩):=
 g0 (sc (hA) (sc D5 (sc dO sn))) a0 func144 (CX n t w e ht hw he hz hf hv)
theorem AZ (n:Nat) (hA:ak prog 30 (p2 (.st .term) (.st .env) fun t e=>⟨some (szT t<=n/\allT ag t=true/\e.values.length+4096 *szT t<=100000000),none,.tup [.st .shape (aa n t e).1,.agg [.int .i64 (aa n t e).2.err,.int .i64 (aa n t e).2.pos]],[]⟩)):ak prog 144 (p3 (.st .term) (.st .shape) (.st .env) fun t w e=>⟨some (szT t<=n/\allT ag t=true/\e.values.length+4096 *szT t<=100000000),none,.agg [.int .i64 (az (aa n) t w e).err,.int .i64 (az (aa n) t w e).pos],[]⟩):=
 C4 D6 fun t w e ht hw he ho=>vo n t w e ht hw he (ho _ rfl).1 (ho _ rfl).2.1 (ho _ rfl).2.2 hA
theorem B0:aD prog 79:=ee func79
theorem sO (n:Nat) (t:Trm) (e:Envt) (ht:Wf (.st .term) t) (he:Wf (.st .env) e) (hp:0 < t.parts.length) (hz:szT t<=n+1) (hf:allT ag t=true) (hv:e.values.length+4096 *szT t<=100000000) (hA:ak prog 30 (p2 (.st .term) (.st .env) fun t e=>⟨some (szT t<=n/\allT ag t=true/\e.values.length+4096 *szT t<=100000000),none,.tup [.st .shape (aa n t e).1,.agg [.int .i64 (aa n t e).2.err,.int .i64 (aa n t e).2.pos]],[]⟩)):ax prog 79 [.st .term t,.st .env e] [] (⟨some (0 < t.parts.length/\szT t<=n+1/\allT ag t=true/\e.values.length+4096 *szT t<=100000000),none,.tup [.st .shape (bR (aa n) t e).1,.agg [.int .i64 (bR (aa n) t e).2.err,.int .i64 (bR (aa n) t e).2.pos]],[]⟩):=
 g0 (sc (hA) (sc pC (sc dO sn))) a0 func79 (AH n t e ht he hp hz hf hv)
theorem xM (n:Nat) (hA:ak prog 30 (p2 (.st .term) (.st .env) fun t e=>⟨some (szT t<=n/\allT ag t=true/\e.values.length+4096 *szT t<=100000000),none,.tup [.st .shape (aa n t e).1,.agg [.int .i64 (aa n t e).2.err,.int .i64 (aa n t e).2.pos]],[]⟩)):ak prog 79 (p2 (.st .term) (.st .env) fun t e=>⟨some (0 < t.parts.length/\szT t<=n+1/\allT ag t=true/\e.values.length+4096 *szT t<=100000000),none,.tup [.st .shape (bR (aa n) t e).1,.agg [.int .i64 (bR (aa n) t e).2.err,.int .i64 (bR (aa n) t e).2.pos]],[]⟩):=
 cG B0 fun t e ht he ho=>sO n t e ht he (ho _ rfl).1 (ho _ rfl).2.1 (ho _ rfl).2.2.1 (ho _ rfl).2.2.2 hA
theorem xN:ak prog 146 (p2 (.st .term) (.st .env) fun t e=>⟨some (t.shapes.length<=1000000),none,.tup [.lst (.st .shape) (ae e.types t.pos t.shapes).1 (some 702),.agg [.int .i64 (ae e.types t.pos t.shapes).2.err,.int .i64 (ae e.types t.pos t.shapes).2.pos]],[(702,.tail (.st .shape) (ae e.types t.pos t.shapes).1.length)]⟩):=
 cG (ee func146) fun t e ht he ho=>g0 (sc vn (sc dO sn)) ⟨[(3,fun S0=>⟨Nat × List AL.Shape,fun x=>x.1<=t.shapes.length/\x.2.length=x.1/\((ae e.types t.pos (t.shapes.drop x.1)).2.err=0→ae e.types t.pos t.shapes=(x.2++(ae e.types t.pos (t.shapes.drop x.1)).1,di))/\(¬(ae e.types t.pos (t.shapes.drop x.1)).2.err=0→ae e.types t.pos t.shapes=ae e.types t.pos (t.shapes.drop x.1)),fun x=>[(14,.int .i64 x.1),(6,.lst (.st .shape) x.2 (some 701))],fun x=>[(701,.tail (.st .shape) x.2.length)],fun x=>t.shapes.length - x.1⟩)],[(300010,[701,702])],[]⟩ func146 (AI t e ht he (ho _ rfl))
theorem D7:aD prog 78:=ee func78
theorem vp (n:Nat) (t:Trm) (e:Envt) (ht:Wf (.st .term) t) (he:Wf (.st .env) e) (hp:0 < t.parts.length) (hz:szT t<=n+1) (hf:allT ag t=true) (hv:e.values.length+4096 *szT t<=100000000) (hA:ak prog 30 (p2 (.st .term) (.st .env) fun t e=>⟨some (szT t<=n/\allT ag t=true/\e.values.length+4096 *szT t<=100000000),none,.tup [.st .shape (aa n t e).1,.agg [.int .i64 (aa n t e).2.err,.int .i64 (aa n t e).2.pos]],[]⟩)) (hF:ak prog 144 (p3 (.st .term) (.st .shape) (.st .env) fun t w e=>⟨some (szT t<=n/\allT ag t=true/\e.values.length+4096 *szT t<=100000000),none,.agg [.int .i64 (az (aa n) t w e).err,.int .i64 (az (aa n) t w e).pos],[]⟩)):ax prog 78 [.st .term t,.st .env e] [] (⟨some (0 < t.parts.length/\szT t<=n+1/\allT ag t=true/\e.values.length+4096 *szT t<=100000000),none,.tup [.st .shape (bP (aa n) t e).1,.agg [.int .i64 (bP (aa n) t e).2.err,.int .i64 (bP (aa n) t e).2.pos]],[]⟩):=
 g0 (sc (hA) (sc (hF) (sc sL (sc dO sn)))) ⟨[(8,fun S0=>⟨Nat,fun k=>k+1<=t.parts.length/\((aa n (t.parts.getD 0 aC) e).1.kind=4→cC (aa n) e (ofK 4) (t.parts.drop 1)=cC (aa n) e (ofK 4) (t.parts.drop (k+1)))/\(¬(aa n (t.parts.getD 0 aC) e).1.kind=4→dL (aa n) e (t.parts.drop 1) (aa n (t.parts.getD 0 aC) e).1.parts=dL (aa n) e (t.parts.drop (k+1)) ((aa n (t.parts.getD 0 aC) e).1.parts.drop k)),fun k=>[(54,.int .i64 k)],fun _=>[],fun k=>t.parts.length - k⟩)],[],[(5,fun S0=>⟨[(45,.bool (!decide ((aa n (t.parts.getD 0 aC) e).1.kind=4) && (!decide ((aa n (t.parts.getD 0 aC) e).1.kind=8) || !decide ((aa n (t.parts.getD 0 aC) e).1.parts.length=t.parts.length))))],[]⟩)]⟩ func78 (CY n t e ht he hp hz hf hv)
theorem B1 (n:Nat) (hA:ak prog 30 (p2 (.st .term) (.st .env) fun t e=>⟨some (szT t<=n/\allT ag t=true/\e.values.length+4096 *szT t<=100000000),none,.tup [.st .shape (aa n t e).1,.agg [.int .i64 (aa n t e).2.err,.int .i64 (aa n t e).2.pos]],[]⟩)) (hF:ak prog 144 (p3 (.st .term) (.st .shape) (.st .env) fun t w e=>⟨some (szT t<=n/\allT ag t=true/\e.values.length+4096 *szT t<=100000000),none,.agg [.int .i64 (az (aa n) t w e).err,.int .i64 (az (aa n) t w e).pos],[]⟩)):ak prog 78 (p2 (.st .term) (.st .env) fun t e=>⟨some (0 < t.parts.length/\szT t<=n+1/\allT ag t=true/\e.values.length+4096 *szT t<=100000000),none,.tup [.st .shape (bP (aa n) t e).1,.agg [.int .i64 (bP (aa n) t e).2.err,.int .i64 (bP (aa n) t e).2.pos]],[]⟩):=
 cG D7 fun t e ht he ho=>vp n t e ht he (ho _ rfl).1 (ho _ rfl).2.1 (ho _ rfl).2.2.1 (ho _ rfl).2.2.2 hA hF
theorem Ev:aD prog 80:=ee func80
theorem xO (n:Nat) (t:Trm) (e:Envt) (ht:Wf (.st .term) t) (he:Wf (.st .env) e) (hp:0 < t.parts.length) (hz:szT t<=n+1) (hf:allT ag t=true) (hv:e.values.length+4096 *szT t<=100000000) (hF:ak prog 144 (p3 (.st .term) (.st .shape) (.st .env) fun t w e=>⟨some (szT t<=n/\allT ag t=true/\e.values.length+4096 *szT t<=100000000),none,.agg [.int .i64 (az (aa n) t w e).err,.int .i64 (az (aa n) t w e).pos],[]⟩)):ax prog 80 [.st .term t,.st .env e] [] (⟨some (0 < t.parts.length/\szT t<=n+1/\allT ag t=true/\e.values.length+4096 *szT t<=100000000),none,.tup [.st .shape (cJ (aa n) t e).1,.agg [.int .i64 (cJ (aa n) t e).2.err,.int .i64 (cJ (aa n) t e).2.pos]],[]⟩):=
 g0 (sc (hF) (sc jM (sc dO sn))) ⟨[(4,fun S0=>⟨Nat × Option Shape,fun x=>x.1<=e.own.length/\(x.2=none→da e.own t.name=da (e.own.take x.1) t.name)/\(∀s,x.2=some s→da e.own t.name=some s),fun x=>[(8,.int .i64 ((x.1:Int) - 1)),(7,.bool x.2.isSome)],fun x=>[(6,.box (.st .shape (x.2.elim aq b6)))],fun x=>x.1⟩)],[],[]⟩ func80 (Et n t e ht he hp hz hf hv)
theorem D8 (n:Nat) (hF:ak prog 144 (p3 (.st .term) (.st .shape) (.st .env) fun t w e=>⟨some (szT t<=n/\allT ag t=true/\e.values.length+4096 *szT t<=100000000),none,.agg [.int .i64 (az (aa n) t w e).err,.int .i64 (az (aa n) t w e).pos],[]⟩)):ak prog 80 (p2 (.st .term) (.st .env) fun t e=>⟨some (0 < t.parts.length/\szT t<=n+1/\allT ag t=true/\e.values.length+4096 *szT t<=100000000),none,.tup [.st .shape (cJ (aa n) t e).1,.agg [.int .i64 (cJ (aa n) t e).2.err,.int .i64 (cJ (aa n) t e).2.pos]],[]⟩):=
 cG Ev fun t e ht he ho=>xO n t e ht he (ho _ rfl).1 (ho _ rfl).2.1 (ho _ rfl).2.2.1 (ho _ rfl).2.2.2 hF
theorem B2:aD prog 81:=ee func81
theorem sP (n:Nat) (t:Trm) (e:Envt) (ht:Wf (.st .term) t) (he:Wf (.st .env) e) (hk:t.kind=6∨t.kind=11∨t.kind=12∨t.kind=13∨t.kind=15) (hz:szT t<=n+1) (hf:allT ag t=true) (hv:e.values.length+4096 *szT t<=100000000) (hA:ak prog 30 (p2 (.st .term) (.st .env) fun t e=>⟨some (szT t<=n/\allT ag t=true/\e.values.length+4096 *szT t<=100000000),none,.tup [.st .shape (aa n t e).1,.agg [.int .i64 (aa n t e).2.err,.int .i64 (aa n t e).2.pos]],[]⟩)) (hF:ak prog 144 (p3 (.st .term) (.st .shape) (.st .env) fun t w e=>⟨some (szT t<=n/\allT ag t=true/\e.values.length+4096 *szT t<=100000000),none,.agg [.int .i64 (az (aa n) t w e).err,.int .i64 (az (aa n) t w e).pos],[]⟩)):ax prog 81 [.st .term t,.st .env e] [] (⟨some ((t.kind=6∨t.kind=11∨t.kind=12∨t.kind=13∨t.kind=15)/\szT t<=n+1/\allT ag t=true/\e.values.length+4096 *szT t<=100000000),none,.tup [.st .shape (aG (aa n) t e).1,.agg [.int .i64 (aG (aa n) t e).2.err,.int .i64 (aG (aa n) t e).2.pos]],[]⟩):=
 g0 (sc (hA) (sc (hF) (sc xN (sc sL (sc uR sn))))) ⟨[(8,fun S0=>⟨Nat × Envt,fun x=>x.1<=t.names.length/\x.2.values.length=e.values.length+x.1/\bO x.2 (eo (t.names.drop x.1) ((ae e.types t.pos t.shapes).1.drop x.1))=bO e (eo t.names (ae e.types t.pos t.shapes).1),fun x=>[(42,.int .i64 x.1)],fun x=>[(3,.box (.st .env x.2))],fun x=>t.names.length - x.1⟩),(16,fun S0=>⟨Nat,fun k=>k<=t.parts.length/\cC (aa n) e ((ae e.types t.pos t.shapes).1.getD 0 aq) (t.parts.drop k)=cC (aa n) e ((ae e.types t.pos t.shapes).1.getD 0 aq) t.parts,fun k=>[(77,.int .i64 k)],fun _=>[],fun k=>t.parts.length - k⟩),(37,fun S0=>⟨Nat × Flt,fun x=>x.1+1<=t.parts.length/\x.2.err=0/\x.2.pos=0/\fc (aa n) e ((ae e.types t.pos t.shapes).1.getD ((ae e.types t.pos t.shapes).1.length - 1) aq) (t.parts.drop (x.1+1)) (t.vars.drop x.1) ((ae e.types t.pos t.shapes).1.drop x.1)=fc (aa n) e ((ae e.types t.pos t.shapes).1.getD ((ae e.types t.pos t.shapes).1.length - 1) aq) (t.parts.drop 1) t.vars (ae e.types t.pos t.shapes).1,fun x=>[(180,.int .i64 x.1)],fun x=>[(7,.box (.agg [.int .i64 x.2.err,.int .i64 x.2.pos]))],fun x=>t.parts.length - x.1⟩)],[],[]⟩ func81 (AJ n t e ht he hk hz hf hv)
theorem xP (n:Nat) (hA:ak prog 30 (p2 (.st .term) (.st .env) fun t e=>⟨some (szT t<=n/\allT ag t=true/\e.values.length+4096 *szT t<=100000000),none,.tup [.st .shape (aa n t e).1,.agg [.int .i64 (aa n t e).2.err,.int .i64 (aa n t e).2.pos]],[]⟩)) (hF:ak prog 144 (p3 (.st .term) (.st .shape) (.st .env) fun t w e=>⟨some (szT t<=n/\allT ag t=true/\e.values.length+4096 *szT t<=100000000),none,.agg [.int .i64 (az (aa n) t w e).err,.int .i64 (az (aa n) t w e).pos],[]⟩)):ak prog 81 (p2 (.st .term) (.st .env) fun t e=>⟨some ((t.kind=6∨t.kind=11∨t.kind=12∨t.kind=13∨t.kind=15)/\szT t<=n+1/\allT ag t=true/\e.values.length+4096 *szT t<=100000000),none,.tup [.st .shape (aG (aa n) t e).1,.agg [.int .i64 (aG (aa n) t e).2.err,.int .i64 (aG (aa n) t e).2.pos]],[]⟩):=
 cG B2 fun t e ht he ho=>sP n t e ht he (ho _ rfl).1 (ho _ rfl).2.1 (ho _ rfl).2.2.1 (ho _ rfl).2.2.2 hA hF
theorem B3:aD prog 49:=ee func49
theorem sQ (n:Nat) (t:Trm) (e:Envt) (ht:Wf (.st .term) t) (he:Wf (.st .env) e) (hz:szT t<=n+1) (hf:allT ag t=true) (hv:e.values.length+4096 *szT t<=100000000) (hA:ak prog 30 (p2 (.st .term) (.st .env) fun t e=>⟨some (szT t<=n/\allT ag t=true/\e.values.length+4096 *szT t<=100000000),none,.tup [.st .shape (aa n t e).1,.agg [.int .i64 (aa n t e).2.err,.int .i64 (aa n t e).2.pos]],[]⟩)) (hF:ak prog 144 (p3 (.st .term) (.st .shape) (.st .env) fun t w e=>⟨some (szT t<=n/\allT ag t=true/\e.values.length+4096 *szT t<=100000000),none,.agg [.int .i64 (az (aa n) t w e).err,.int .i64 (az (aa n) t w e).pos],[]⟩)):ax prog 49 [.st .term t,.st .env e] [] (⟨some (szT t<=n+1/\allT ag t=true/\e.values.length+4096 *szT t<=100000000),none,.tup [.st .shape (ao (aa n) t e).1,.agg [.int .i64 (ao (aa n) t e).2.err,.int .i64 (ao (aa n) t e).2.pos]],[]⟩):=
 g0 (sc (hA) (sc sL (sc dO (sc AY (sc uR (sc ((B1 n hA hF)) (sc ((xM n hA)) (sc ((D8 n hF)) (sc ((xP n hA hF)) sn))))))))) ⟨[(19,fun S0=>⟨Nat × List AL.Shape,fun x=>x.1<=t.parts.length/\x.2.length=x.1/\cb (aa n) e t.parts=(x.2++(cb (aa n) e (t.parts.drop x.1)).1,(cb (aa n) e (t.parts.drop x.1)).2),fun x=>[(67,.int .i64 x.1)],fun x=>[(8,.box (.agg [.int .i64 6,.str [],.str [],.lst .str t.names none,.lst (.st .shape) x.2 (some 701)])),(701,.tail (.st .shape) x.2.length)],fun x=>t.parts.length - x.1⟩)],[],[(7,fun S0=>⟨[(27,.bool (decide (t.kind=3) || decide (t.kind=4)))],[]⟩)]⟩ func49 (AK n t e ht he hz hf hv)
theorem qZ:∀n:Nat,ak prog 30 (p2 (.st .term) (.st .env) fun t e=>⟨some (szT t<=n/\allT ag t=true/\e.values.length+4096 *szT t<=100000000),none,.tup [.st .shape (aa n t e).1,.agg [.int .i64 (aa n t e).2.err,.int .i64 (aa n t e).2.pos]],[]⟩)
 | 0=>cG qY fun t e ht he ho=>absurd (du t) (by have:=(ho _ rfl).1;omega)
 | n+1=>
  have hA:=qZ n
  have hF:=AZ n hA
  cG qY fun t e ht he ho=>sM n t e ht he (ho _ rfl).1 (ho _ rfl).2.1 (ho _ rfl).2.2 (cG B3 fun t e ht he ho=>sQ n t e ht he (ho _ rfl).1 (ho _ rfl).2.1 (ho _ rfl).2.2 hA hF)
theorem B4:ak prog 12 (p2 (.st .term) (.st .env) fun t e=>⟨some (bL t=true/\e.values.length<=1000000),none,.tup [.st .shape (cD t e).1,.agg [.int .i64 (cD t e).2.err,.int .i64 (cD t e).2.pos]],[]⟩):=
 cG (ee func12) fun t e ht he ho=>g0 (sc kT (sc dO (sc ((qZ (szT t))) sn))) a0 func12 (CZ t e ht he (ho _ rfl))
theorem vq:ak prog 10 (p1 (.st .term) fun t=>.ret (.bool (decide (cW t 300<=300)))):=
 b9 (ee func10) fun t ht _=>g0 (sc (qV (szT t)) sn) a0 func10 (xt t ht)
end Go.AL.Seat
end
section
open Go Go.AL Go.Pd
namespace Go.AL.Seat
theorem B5 (c:Int)  :
  if decide ((97:Int)<=c)=true then True/\decide (c<=(122:Int))=bQ c/\True else True/\false=bQ c/\True:=by
 simp only [true_and,and_true]
 unfold bQ
 by_cases h:(97:Int)<=c
 ·rw [if_pos (Xd h)];simp [h]
 ·rw [if_neg (by simpa using h)];simp [h]
theorem B6 (c:Int)  :
  if decide ((65:Int)<=c)=true then True/\decide (c<=(90:Int))=bV c/\True else True/\false=bV c/\True:=by
 simp only [true_and,and_true]
 unfold bV
 by_cases h:(65:Int)<=c
 ·rw [if_pos (Xd h)];simp [h]
 ·rw [if_neg (by simpa using h)];simp [h]
theorem B7 (c:Int)  :
  if decide ((48:Int)<=c)=true then True/\decide (c<=(57:Int))=eU c/\True else True/\false=eU c/\True:=by
 simp only [true_and,and_true]
 unfold eU
 by_cases h:(48:Int)<=c
 ·rw [if_pos (Xd h)];simp [h]
 ·rw [if_neg (by simpa using h)];simp [h]
theorem D9 (s:Str) (hs:Wf .str s) :
  (∃(x:Nat),(x<=List.length s/\cH s=x+cH (List.drop x s))/\(0:Int)=(↑x:Int)/\s=s/\(0:Int)=(0:Int)/\True)/\∀(x:Nat),x<=List.length s/\cH s=x+cH (List.drop x s)→if decide ((↑x:Int) < (↑(List.length s):Int))=true then ((0:Int)<=(↑x:Int)/\(↑x:Int) < (↑(List.length s):Int))/\if bQ (↑(UInt8.toNat (List.getD s (Int.toNat (↑x:Int)) (0:UInt8))):Int)=true then inR IntKind.i64 ((↑x:Int)+(1:Int))/\∃(y:Nat),(y<=List.length s/\cH s=y+cH (List.drop y s))/\List.length s - y < List.length s - x/\(↑x:Int)+(1:Int)=(↑y:Int)/\s=s/\(0:Int)=(0:Int)/\True else ((0:Int)<=(↑x:Int)/\(↑x:Int) < (↑(List.length s):Int))/\if bV (↑(UInt8.toNat (List.getD s (Int.toNat (↑x:Int)) (0:UInt8))):Int)=true then inR IntKind.i64 ((↑x:Int)+(1:Int))/\∃(y:Nat),(y<=List.length s/\cH s=y+cH (List.drop y s))/\List.length s - y < List.length s - x/\(↑x:Int)+(1:Int)=(↑y:Int)/\s=s/\(0:Int)=(0:Int)/\True else ((0:Int)<=(↑x:Int)/\(↑x:Int) < (↑(List.length s):Int))/\if eU (↑(UInt8.toNat (List.getD s (Int.toNat (↑x:Int)) (0:UInt8))):Int)=true then inR IntKind.i64 ((↑x:Int)+(1:Int))/\∃(y:Nat),(y<=List.length s/\cH s=y+cH (List.drop y s))/\List.length s - y < List.length s - x/\(↑x:Int)+(1:Int)=(↑y:Int)/\s=s/\(0:Int)=(0:Int)/\True else ((0:Int)<=(↑x:Int)/\(↑x:Int) < (↑(List.length s):Int))/\if decide ((↑(UInt8.toNat (List.getD s (Int.toNat (↑x:Int)) (0:UInt8))):Int)=(95:Int))=true then inR IntKind.i64 ((↑x:Int)+(1:Int))/\∃(y:Nat),(y<=List.length s/\cH s=y+cH (List.drop y s))/\List.length s - y < List.length s - x/\(↑x:Int)+(1:Int)=(↑y:Int)/\s=s/\(0:Int)=(0:Int)/\True else True/\(↑x:Int)=(↑(cH s):Int)/\True else True/\(↑x:Int)=(↑(cH s):Int)/\True:=by
 have ln:=hs.str
 have eb:∀b:UInt8,(b.toNat:Int)=bI b:=fun _=>rfl
 simp only [Int.toNat_natCast,eq_self,true_and,and_true,eb]
 refine ⟨⟨0,⟨Nat.zero_le _,by simp⟩,rfl⟩,?_⟩
 rintro k ⟨h1,h2⟩
 refine ab (fun h=>?_) (fun h=>?_)
 ·replace h:=Xo h
  have hk:k < s.length:=by omega
  rw [aE s k 0 hk] at h2
  simp only [cH] at h2
  have fin:dD (bI (s.getD k 0))=true→(inR IntKind.i64 ((k:Int)+1)/\∃y:Nat,(y<=s.length/\cH s=y+cH (s.drop y))/\s.length - y < s.length - k/\(k:Int)+1=(y:Int)):=by
   intro e
   rw [if_pos e] at h2
   exact ⟨aK hk ln,k+1,⟨by omega,by omega⟩,by omega,by omega⟩
  have hr:dD (bI (s.getD k 0))=(bQ (bI (s.getD k 0)) || bV (bI (s.getD k 0)) || eU (bI (s.getD k 0)) || decide (bI (s.getD k 0)=95)):=rfl
  refine ⟨by omega,ab (fun a=>fin (by rw [hr,a];simp)) (fun a=>⟨by omega,ab (fun b=>fin (by rw [hr,b];simp)) (fun b=>⟨by omega,ab (fun c=>fin (by rw [hr,c];simp)) (fun c=>⟨by omega,ab (fun d=>fin (by rw [hr,d];simp)) (fun d=>?_)⟩)⟩)⟩)⟩
  rw [if_neg ?_] at h2
  ·omega
  ·rw [hr];simp only [Bool.not_eq_true] at a b c d;rw [a,b,c,d];simp
 ·replace h:¬((k:Int) < (s.length:Int)):=fun e=>h (Xd e)
  have e:k=s.length:=by omega
  subst e
  rw [List.drop_length] at h2
  simp only [cH] at h2
  omega
theorem Da (s:Str) (l:List Str) (hl:Wf (.lst .str) l) :
  (∃(x:Nat),(x<=List.length l/\decide (s∈l)=decide (s∈List.drop x l))/\(0:Int)=(↑x:Int)/\s=s/\l=l/\True)/\∀(x:Nat),x<=List.length l/\decide (s∈l)=decide (s∈List.drop x l)→if decide ((↑x:Int) < (↑(List.length l):Int))=true then ((0:Int)<=(↑x:Int)/\(↑x:Int) < (↑(List.length l):Int))/\if decide (s=List.getD l (Int.toNat (↑x:Int)) (dfl Ty.str))=true then True/\true=decide (s∈l)/\True else inR IntKind.i64 ((↑x:Int)+(1:Int))/\∃(y:Nat),(y<=List.length l/\decide (s∈l)=decide (s∈List.drop y l))/\List.length l - y < List.length l - x/\(↑x:Int)+(1:Int)=(↑y:Int)/\s=s/\l=l/\True else True/\false=decide (s∈l)/\True:=by
 have ln:=hl.len
 simp only [Int.toNat_natCast,eq_self,true_and,and_true]
 refine ⟨⟨0,⟨Nat.zero_le _,by simp⟩,rfl⟩,?_⟩
 rintro k ⟨h1,h2⟩
 refine ab (fun h=>?_) (fun h=>?_)
 ·replace h:=Xo h
  have hk:k < l.length:=by omega
  rw [aE l k (dfl .str) hk] at h2
  refine ⟨by omega,ab (fun a=>?_) (fun a=>?_)⟩
  ·rw [h2,Xo a];simp
  ·refine ⟨aK hk ln,k+1,⟨by omega,?_⟩,by omega,by omega⟩
   rw [h2,decide_eq_decide,List.mem_cons]
   constructor
   ·rintro (h | h)
    ·exact absurd (Xd h) a
    ·exact h
   ·exact Or.inr
 ·replace h:¬((k:Int) < (l.length:Int)):=fun e=>h (Xd e)
  have e:k=l.length:=by omega
  subst e
  rw [h2,List.drop_length];simp
theorem Db (s:Str)  :
  True/\decide (s∈[[(109:UInt8),(111:UInt8),(100:UInt8),(117:UInt8),(108:UInt8),(101:UInt8)],[(105:UInt8),(109:UInt8),(112:UInt8),(111:UInt8),(114:UInt8),(116:UInt8)],[(112:UInt8),(105:UInt8),(110:UInt8)],[(114:UInt8),(97:UInt8),(110:UInt8),(103:UInt8),(101:UInt8)],[(116:UInt8),(121:UInt8),(112:UInt8),(101:UInt8)],[(111:UInt8),(112:UInt8),(97:UInt8),(113:UInt8),(117:UInt8),(101:UInt8)],[(108:UInt8),(101:UInt8),(116:UInt8)],[(105:UInt8),(110:UInt8)],[(101:UInt8),(120:UInt8),(112:UInt8),(111:UInt8),(114:UInt8),(116:UInt8)],[(102:UInt8),(117:UInt8),(110:UInt8)],[(105:UInt8),(102:UInt8)],[(116:UInt8),(104:UInt8),(101:UInt8),(110:UInt8)],[(101:UInt8),(108:UInt8),(115:UInt8),(101:UInt8)],[(99:UInt8),(97:UInt8),(115:UInt8),(101:UInt8)],[(111:UInt8),(102:UInt8)],[(97:UInt8),(115:UInt8)],[(110:UInt8),(101:UInt8),(119:UInt8)],[(114:UInt8),(97:UInt8),(119:UInt8)],[(116:UInt8),(114:UInt8),(117:UInt8),(101:UInt8)],[(102:UInt8),(97:UInt8),(108:UInt8),(115:UInt8),(101:UInt8)]])=cZ s/\True:=by
 exact ⟨trivial,rfl,trivial⟩
theorem Dc (s:Str)  :
  if (!decide (s=[]))=true then if decide ((↑(List.length s):Int)<=(24:Int))=true then ((0:Int)<=(0:Int)/\(0:Int) < (↑(List.length s):Int))/\if bQ (↑(UInt8.toNat (List.getD s (Int.toNat (0:Int)) (0:UInt8))):Int)=true then if decide ((↑(cH s):Int)=(↑(List.length s):Int))=true then True/\(!cZ s)=ay s/\True else True/\false=ay s/\True else True/\false=ay s/\True else True/\false=ay s/\True else True/\false=ay s/\True:=by
 have eb:∀b:UInt8,(b.toNat:Int)=bI b:=fun _=>rfl
 simp only [Int.toNat_natCast,Int.toNat_zero,eq_self,true_and,and_true,eb]
 have hF:ay s=(!decide (s=[]) && decide (s.length<=24) && bQ (bI (s.getD 0 0)) && decide (cH s=s.length) && !cZ s):=by unfold ay;rw [mT]
 refine ab (fun a=>?_) (fun a=>?_)
 ·have a':decide (s=[])=false:=by simpa using a
  have hpos:0 < s.length:=List.length_pos_iff.2 (of_decide_eq_false a')
  refine ab (fun b=>?_) (fun b=>?_)
  ·have b':s.length<=24:=by have:=Xo b;omega
   refine ⟨by omega,ab (fun c=>?_) (fun c=>?_)⟩
   ·refine ab (fun d=>?_) (fun d=>?_)
    ·have d':cH s=s.length:=by have:=Xo d;omega
     rw [hF,a',c,d'];simp [b']
    ·have d':¬cH s=s.length:=fun e=>d (Xd (by omega))
     rw [hF];simp [d']
   ·simp only [Bool.not_eq_true] at c
    rw [hF,c];simp
  ·have b':¬s.length<=24:=fun e=>b (Xd (by omega))
   rw [hF];simp [b']
 ·have a':decide (s=[])=true:=by simpa using a
  rw [hF,a'];simp
theorem B8 (s:Str)  :
  if (!decide (s=[]))=true then if decide ((↑(List.length s):Int)<=(24:Int))=true then ((0:Int)<=(0:Int)/\(0:Int) < (↑(List.length s):Int))/\if bV (↑(UInt8.toNat (List.getD s (Int.toNat (0:Int)) (0:UInt8))):Int)=true then True/\decide ((↑(cH s):Int)=(↑(List.length s):Int))=aQ s/\True else True/\false=aQ s/\True else True/\false=aQ s/\True else True/\false=aQ s/\True:=by
 have eb:∀b:UInt8,(b.toNat:Int)=bI b:=fun _=>rfl
 simp only [Int.toNat_natCast,Int.toNat_zero,eq_self,true_and,and_true,eb]
 have hF:aQ s=(!decide (s=[]) && decide (s.length<=24) && bV (bI (s.getD 0 0)) && decide (cH s=s.length)):=by unfold aQ;rw [mT]
 refine ab (fun a=>?_) (fun a=>?_)
 ·have a':decide (s=[])=false:=by simpa using a
  have hpos:0 < s.length:=List.length_pos_iff.2 (of_decide_eq_false a')
  refine ab (fun b=>?_) (fun b=>?_)
  ·have b':s.length<=24:=by have:=Xo b;omega
   refine ⟨by omega,ab (fun c=>?_) (fun c=>?_)⟩
   ·rw [hF,a',c]
    simp [b',Int.ofNat_inj]
   ·simp only [Bool.not_eq_true] at c
    rw [hF,c];simp
  ·have b':¬s.length<=24:=fun e=>b (Xd (by omega))
   rw [hF];simp [b']
 ·have a':decide (s=[])=true:=by simpa using a
  rw [hF,a'];simp
theorem B9 (ns:List Str) (n:Int) (hl:Wf (.lst .str) ns) :
  (∃(x:Nat),(x<=List.length ns/\List.all (List.take x ns) ay=true/\List.Nodup (List.take x ns))/\(0:Int)=(↑x:Int)/\ns=ns/\n=n/\True)/\∀(x:Nat),x<=List.length ns/\List.all (List.take x ns) ay=true/\List.Nodup (List.take x ns)→if decide ((↑x:Int) < (↑(List.length ns):Int))=true then ((0:Int)<=(↑x:Int)/\(↑x:Int) < (↑(List.length ns):Int))/\if (!ay (List.getD ns (Int.toNat (↑x:Int)) (dfl Ty.str)))=true then True/\false=eZ ns n/\True else (∃(x_1:Nat),((↑x_1:Int)<=(↑x:Int)/\¬List.getD ns (Int.toNat (↑x:Int)) (dfl Ty.str)∈List.take x_1 ns)/\(0:Int)=(↑x_1:Int)/\(↑x:Int)=(↑x:Int)/\ns=ns/\n=n/\true=true/\false=false/\True)/\∀(x_1:Nat),(↑x_1:Int)<=(↑x:Int)/\¬List.getD ns (Int.toNat (↑x:Int)) (dfl Ty.str)∈List.take x_1 ns→if decide ((↑x_1:Int) < (↑x:Int))=true then ((0:Int)<=(↑x_1:Int)/\(↑x_1:Int) < (↑(List.length ns):Int))/\((0:Int)<=(↑x:Int)/\(↑x:Int) < (↑(List.length ns):Int))/\if decide (List.getD ns (Int.toNat (↑x_1:Int)) (dfl Ty.str)=List.getD ns (Int.toNat (↑x:Int)) (dfl Ty.str))=true then True/\false=eZ ns n/\True else inR IntKind.i64 ((↑x_1:Int)+(1:Int))/\∃(y:Nat),((↑y:Int)<=(↑x:Int)/\¬List.getD ns (Int.toNat (↑x:Int)) (dfl Ty.str)∈List.take y ns)/\Int.toNat (↑x:Int) - y < Int.toNat (↑x:Int) - x_1/\(↑x_1:Int)+(1:Int)=(↑y:Int)/\(↑x:Int)=(↑x:Int)/\ns=ns/\n=n/\true=true/\false=false/\True else inR IntKind.i64 ((↑x:Int)+(1:Int))/\∃(y:Nat),(y<=List.length ns/\List.all (List.take y ns) ay=true/\List.Nodup (List.take y ns))/\List.length ns - y < List.length ns - x/\(↑x:Int)+(1:Int)=(↑y:Int)/\ns=ns/\n=n/\True else True/\decide ((↑(List.length ns):Int)=n)=eZ ns n/\True:=by
 have ln:=hl.len
 simp only [Int.toNat_natCast,eq_self,true_and,and_true]
 refine ⟨⟨0,⟨Nat.zero_le _,by simp,by simp⟩,rfl⟩,?_⟩
 rintro k ⟨h1,h2,h3⟩
 refine ab (fun h=>?_) (fun h=>?_)
 ·replace h:=Xo h
  have hk:k < ns.length:=by omega
  have hmem:=getD_mem ns k (dfl .str) hk
  have ht:=eD ns k (dfl .str) hk
  refine ⟨by omega,ab (fun a=>?_) (fun a=>?_)⟩
  ·have a':ns.all ay=false:=by
    rw [Bool.eq_false_iff]
    intro e
    have:=List.all_eq_true.1 e _ hmem
    rw [this] at a
    simp at a
   unfold eZ
   rw [a']
   simp
  ·have a':ay (ns.getD k (dfl .str))=true:=by simpa using a
   refine ⟨⟨0,⟨by omega,by simp⟩,rfl⟩,?_⟩
   rintro j ⟨j1,j2⟩
   refine ab (fun b=>?_) (fun b=>?_)
   ·replace b:=Xo b
    have hj:j < k:=by omega
    have hjn:j < ns.length:=by omega
    have htj:=eD ns j (dfl .str) hjn
    refine ⟨by omega,by omega,ab (fun c=>?_) (fun c=>?_)⟩
    ·replace c:=Xo c
     have hnd:¬ns.Nodup:=by
      intro hn
      rw [List.nodup_iff_pairwise_ne] at hn
      have:=List.pairwise_iff_getElem.1 hn j k hjn hk hj
      rw [List.getD_eq_getElem?_getD,List.getD_eq_getElem?_getD,List.getElem?_eq_getElem hjn,List.getElem?_eq_getElem hk] at c
      exact this c
     unfold eZ
     simp [hnd]
    ·refine ⟨aK hjn ln,j+1,⟨by omega,?_⟩,by omega,by omega⟩
     rw [htj,List.mem_append,List.mem_singleton,not_or]
     exact ⟨j2,fun e=>c (Xd e.symm)⟩
   ·have hj:j=k:=by
     have:¬((j:Int) < (k:Int)):=fun e=>b (Xd e)
     omega
    subst hj
    refine ⟨aK hk ln,j+1,⟨by omega,?_,?_⟩,by omega,by omega⟩
    ·rw [ht,List.all_append,h2];simpa using a'
    ·rw [ht,List.nodup_append]
     refine ⟨h3,by simp,fun x hx y hy=>?_⟩
     rw [List.mem_singleton] at hy
     subst hy
     intro e
     subst e
     exact j2 hx
 ·replace h:¬((k:Int) < (ns.length:Int)):=fun e=>h (Xd e)
  have e:k=ns.length:=by omega
  subst e
  rw [List.take_length] at h2 h3
  unfold eZ
  rw [h2]
  simp [h3]
theorem Dd (s:Shape) (hs:Wf (.st .shape) s) :
  if decide (s.kind=(9:Int))=true then if decide (s.name=[(73:UInt8),(110:UInt8),(116:UInt8)])=true then if ay s.pkg=true then if aQ s.name=true then if decide ((↑(List.length s.names):Int)=(0:Int))=true then True/\decide ((↑(List.length s.parts):Int)=(0:Int))=aj s/\True else True/\false=aj s/\True else True/\false=aj s/\True else if decide (s.pkg=[])=true then if decide (s.kind=(9:Int))=true then if aQ s.name=true then True/\false=aj s/\True else True/\false=aj s/\True else if aQ s.name=true then True/\false=aj s/\True else True/\false=aj s/\True else if aQ s.name=true then True/\false=aj s/\True else True/\false=aj s/\True else if decide (s.name=[(66:UInt8),(111:UInt8),(111:UInt8),(108:UInt8)])=true then if ay s.pkg=true then if aQ s.name=true then if decide ((↑(List.length s.names):Int)=(0:Int))=true then True/\decide ((↑(List.length s.parts):Int)=(0:Int))=aj s/\True else True/\false=aj s/\True else True/\false=aj s/\True else if decide (s.pkg=[])=true then if decide (s.kind=(9:Int))=true then if aQ s.name=true then True/\false=aj s/\True else True/\false=aj s/\True else if aQ s.name=true then True/\false=aj s/\True else True/\false=aj s/\True else if aQ s.name=true then True/\false=aj s/\True else True/\false=aj s/\True else if decide (s.name=[(84:UInt8),(101:UInt8),(120:UInt8),(116:UInt8)])=true then if ay s.pkg=true then if aQ s.name=true then if decide ((↑(List.length s.names):Int)=(0:Int))=true then True/\decide ((↑(List.length s.parts):Int)=(0:Int))=aj s/\True else True/\false=aj s/\True else True/\false=aj s/\True else if decide (s.pkg=[])=true then if decide (s.kind=(9:Int))=true then if aQ s.name=true then True/\false=aj s/\True else True/\false=aj s/\True else if aQ s.name=true then True/\false=aj s/\True else True/\false=aj s/\True else if aQ s.name=true then True/\false=aj s/\True else True/\false=aj s/\True else if ay s.pkg=true then if aQ s.name=true then if decide ((↑(List.length s.names):Int)=(0:Int))=true then True/\decide ((↑(List.length s.parts):Int)=(0:Int))=aj s/\True else True/\false=aj s/\True else True/\false=aj s/\True else if decide (s.pkg=[])=true then if decide (s.kind=(9:Int))=true then if aQ s.name=true then if (!decide (s.name=[(65:UInt8),(110:UInt8),(121:UInt8)]))=true then if decide ((↑(List.length s.names):Int)=(0:Int))=true then True/\decide ((↑(List.length s.parts):Int)=(0:Int))=aj s/\True else True/\false=aj s/\True else True/\false=aj s/\True else True/\false=aj s/\True else if aQ s.name=true then True/\false=aj s/\True else True/\false=aj s/\True else if aQ s.name=true then True/\false=aj s/\True else True/\false=aj s/\True else if decide (s.kind=(10:Int))=true then if decide (s.name=[(73:UInt8),(110:UInt8),(116:UInt8)])=true then if ay s.pkg=true then if aQ s.name=true then if decide ((↑(List.length s.names):Int)=(0:Int))=true then True/\decide ((↑(List.length s.parts):Int)=(0:Int))=aj s/\True else True/\false=aj s/\True else True/\false=aj s/\True else if decide (s.pkg=[])=true then if decide (s.kind=(9:Int))=true then if aQ s.name=true then True/\false=aj s/\True else True/\false=aj s/\True else if aQ s.name=true then True/\false=aj s/\True else True/\false=aj s/\True else if aQ s.name=true then True/\false=aj s/\True else True/\false=aj s/\True
  else if decide (s.name=[(66:UInt8),(111:UInt8),(111:UInt8),(108:UInt8)])=true then if ay s.pkg=true then if aQ s.name=true then if decide ((↑(List.length s.names):Int)=(0:Int))=true then True/\decide ((↑(List.length s.parts):Int)=(0:Int))=aj s/\True else True/\false=aj s/\True else True/\false=aj s/\True else if decide (s.pkg=[])=true then if decide (s.kind=(9:Int))=true then if aQ s.name=true then True/\false=aj s/\True else True/\false=aj s/\True else if aQ s.name=true then True/\false=aj s/\True else True/\false=aj s/\True else if aQ s.name=true then True/\false=aj s/\True else True/\false=aj s/\True else if decide (s.name=[(84:UInt8),(101:UInt8),(120:UInt8),(116:UInt8)])=true then if ay s.pkg=true then if aQ s.name=true then if decide ((↑(List.length s.names):Int)=(0:Int))=true then True/\decide ((↑(List.length s.parts):Int)=(0:Int))=aj s/\True else True/\false=aj s/\True else True/\false=aj s/\True else if decide (s.pkg=[])=true then if decide (s.kind=(9:Int))=true then if aQ s.name=true then True/\false=aj s/\True else True/\false=aj s/\True else if aQ s.name=true then True/\false=aj s/\True else True/\false=aj s/\True else if aQ s.name=true then True/\false=aj s/\True else True/\false=aj s/\True else if ay s.pkg=true then if aQ s.name=true then if decide ((↑(List.length s.names):Int)=(0:Int))=true then True/\decide ((↑(List.length s.parts):Int)=(0:Int))=aj s/\True else True/\false=aj s/\True else True/\false=aj s/\True else if decide (s.pkg=[])=true then if decide (s.kind=(9:Int))=true then if aQ s.name=true then if (!decide (s.name=[(65:UInt8),(110:UInt8),(121:UInt8)]))=true then if decide ((↑(List.length s.names):Int)=(0:Int))=true then True/\decide ((↑(List.length s.parts):Int)=(0:Int))=aj s/\True else True/\false=aj s/\True else True/\false=aj s/\True else True/\false=aj s/\True else if aQ s.name=true then True/\false=aj s/\True else True/\false=aj s/\True else if aQ s.name=true then True/\false=aj s/\True else True/\false=aj s/\True else if (!decide (s.pkg=[]))=true then True/\false=aj s/\True else if (!decide (s.name=[]))=true then True/\false=aj s/\True else if decide (s.kind=(6:Int))=true then True/\eZ s.names (↑(List.length s.parts):Int)=aj s/\True else if decide (s.kind=(7:Int))=true then True/\eZ s.names (↑(List.length s.parts):Int)=aj s/\True else if decide ((0:Int) < (↑(List.length s.names):Int))=true then True/\false=aj s/\True else if decide (s.kind=(8:Int))=true then True/\decide ((1:Int)<=(↑(List.length s.parts):Int))=aj s/\True else if decide (s.kind=(5:Int))=true then True/\decide ((↑(List.length s.parts):Int)=(1:Int))=aj s/\True else if decide ((1:Int)<=s.kind)=true then if decide (s.kind<=(4:Int))=true then True/\decide ((↑(List.length s.parts):Int)=(0:Int))=aj s/\True else True/\false=aj s/\True else True/\false=aj s/\True:=by
 have n0:((s.names.length:Int)=0)↔s.names=[]:=by rw [←List.length_eq_zero_iff];omega
 have n1:(0 < (s.names.length:Int))↔¬s.names=[]:=by rw [←List.length_eq_zero_iff];omega
 have p0:((s.parts.length:Int)=0)↔s.parts=[]:=by rw [←List.length_eq_zero_iff];omega
 have p1:((s.parts.length:Int)=1)↔s.parts.length=1:=by omega
 have p2:(1<=(s.parts.length:Int))↔¬s.parts=[]:=by rw [←List.length_eq_zero_iff];omega
 have hn:eZ s.names (s.parts.length:Int)=ct s:=by
  unfold eZ ct
  rw [decide_eq_decide.2 (show ((s.names.length:Int)=(s.parts.length:Int))↔s.names.length=s.parts.length by omega)]
 simp only [n0,n1,p0,p1,p2,hn,decide_eq_true_eq,true_and,and_true]
 have hf:aj s=aj s:=rfl
 conv at hf=>rhs;unfold aj
 unfold gI at hf
 have hk:(s.kind=1∨s.kind=2∨s.kind=3∨s.kind=4)↔(1<=s.kind/\s.kind<=4):=by omega
 simp only [hk] at hf
 clear hk n0 n1 p0 p1 p2 hn
 revert hf
 generalize aj s=F
 generalize ct s=A
 generalize aQ s.name=B
 generalize ay s.pkg=C
 generalize s.kind=K
 intro hf
 repeat' (refine ab (fun _=>?_) (fun _=>?_))
 all_goals (subst hf;(try simp_all);try (intros;omega))
theorem De (n:Nat) (s:Shape) (hs:Wf (.st .shape) s) (hn:sz s<=n+1) :
  if (!aj s)=true then True/\false=allS aj s/\True else (∃(x:Nat),(x<=List.length s.parts/\allS aj s=allL aj (List.drop x s.parts))/\(0:Int)=(↑x:Int)/\s=s/\false=false/\s=s/\True)/\∀(x:Nat),x<=List.length s.parts/\allS aj s=allL aj (List.drop x s.parts)→if decide ((↑x:Int) < (↑(List.length s.parts):Int))=true then ((0:Int)<=(↑x:Int)/\(↑x:Int) < (↑(List.length s.parts):Int))/\sz (List.getD s.parts (Int.toNat (↑x:Int)) (dfl (Ty.st SN.shape)))<=n/\if (!allS aj (List.getD s.parts (Int.toNat (↑x:Int)) (dfl (Ty.st SN.shape))))=true then True/\false=allS aj s/\True else inR IntKind.i64 ((↑x:Int)+(1:Int))/\∃(y:Nat),(y<=List.length s.parts/\allS aj s=allL aj (List.drop y s.parts))/\List.length s.parts - y < List.length s.parts - x/\(↑x:Int)+(1:Int)=(↑y:Int)/\s=s/\false=false/\s=s/\True else True/\true=allS aj s/\True:=by
 have ln:=hs.parts.len
 have hz:=fK s
 simp only [Int.toNat_natCast,eq_self,true_and,and_true]
 refine ab (fun h=>?_) (fun h=>?_)
 ·have h:aj s=false:=by simpa using h
  rw [fD,h];rfl
 have h:aj s=true:=by simpa using h
 refine ⟨⟨0,⟨Nat.zero_le _,by rw [fD,h];rfl⟩,rfl⟩,?_⟩
 rintro k ⟨h1,h3⟩
 refine ab (fun h=>?_) (fun h=>?_)
 ·replace h:=Xo h
  have hk:k < s.parts.length:=by omega
  have hm:=dr (getD_mem s.parts k (dfl (.st .shape)) hk)
  rw [aE s.parts k (dfl (.st .shape)) hk] at h3
  simp only [allL] at h3
  refine ⟨by omega,by omega,?_⟩
  cases e:allS aj (s.parts.getD k (dfl (.st .shape)))
  ·rw [e] at h3;rw [h3];simp
  ·simp only [e,Bool.true_and] at h3
   exact ⟨aK hk ln,k+1,⟨by omega,h3⟩,by omega,by omega⟩
 ·replace h:¬((k:Int) < (s.parts.length:Int)):=fun e=>h (Xd e)
  have e:k=s.parts.length:=by omega
  subst e
  rw [h3,List.drop_length];rfl
theorem Ew (n:Nat) (s:Shape) (hs:Wf (.st .shape) s) (hn:sz s<=n+1) (hb:n<=1000000) :
  (∃(x:Nat × Int),(x.1<=List.length s.parts/\(0:Int)<=x.2/\max x.2 (↑(maxDeep (List.drop x.1 s.parts)):Int)=(↑(maxDeep s.parts):Int))/\(0:Int)=x.2/\(0:Int)=(↑x.1:Int)/\s=s/\(0:Int)=(0:Int)/\s=s/\True)/\∀(x:Nat × Int),x.1<=List.length s.parts/\(0:Int)<=x.2/\max x.2 (↑(maxDeep (List.drop x.1 s.parts)):Int)=(↑(maxDeep s.parts):Int)→if decide ((↑x.1:Int) < (↑(List.length s.parts):Int))=true then ((0:Int)<=(↑x.1:Int)/\(↑x.1:Int) < (↑(List.length s.parts):Int))/\sz (List.getD s.parts (Int.toNat (↑x.1:Int)) (dfl (Ty.st SN.shape)))<=n/\if decide (x.2 < (↑(deepF (List.getD s.parts (Int.toNat (↑x.1:Int)) (dfl (Ty.st SN.shape)))):Int))=true then inR IntKind.i64 ((↑x.1:Int)+(1:Int))/\∃(y:Nat × Int),(y.1<=List.length s.parts/\(0:Int)<=y.2/\max y.2 (↑(maxDeep (List.drop y.1 s.parts)):Int)=(↑(maxDeep s.parts):Int))/\List.length s.parts - y.1 < List.length s.parts - x.1/\(↑(deepF (List.getD s.parts (Int.toNat (↑x.1:Int)) (dfl (Ty.st SN.shape)))):Int)=y.2/\(↑x.1:Int)+(1:Int)=(↑y.1:Int)/\s=s/\(0:Int)=(0:Int)/\s=s/\True else inR IntKind.i64 ((↑x.1:Int)+(1:Int))/\∃(y:Nat × Int),(y.1<=List.length s.parts/\(0:Int)<=y.2/\max y.2 (↑(maxDeep (List.drop y.1 s.parts)):Int)=(↑(maxDeep s.parts):Int))/\List.length s.parts - y.1 < List.length s.parts - x.1/\x.2=y.2/\(↑x.1:Int)+(1:Int)=(↑y.1:Int)/\s=s/\(0:Int)=(0:Int)/\s=s/\True else inR IntKind.i64 (x.2+(1:Int))/\True/\x.2+(1:Int)=(↑(deepF s):Int)/\True:=by
 have ln:=hs.parts.len
 have hz:=fK s
 have hd:deepF s=maxDeep s.parts+1:=by cases s;rfl
 have hds:=maxDeep_sz s.parts
 simp only [Int.toNat_natCast,eq_self,true_and,and_true]
 refine ⟨⟨(0,0),⟨Nat.zero_le _,by simp,by simp only [List.drop_zero];omega⟩,rfl,rfl⟩,?_⟩
 rintro ⟨k,c⟩ ⟨h1,h2,h3⟩
 simp only at h1 h2 h3 ⊢
 refine ab (fun h=>?_) (fun h=>?_)
 ·replace h:=Xo h
  have hk:k < s.parts.length:=by omega
  have hm:=dr (getD_mem s.parts k (dfl (.st .shape)) hk)
  rw [aE s.parts k (dfl (.st .shape)) hk] at h3
  simp only [maxDeep] at h3
  refine ⟨by omega,by omega,ab (fun a=>?_) (fun a=>?_)⟩
  ·replace a:=Xo a
   exact ⟨aK hk ln,(k+1,(deepF (s.parts.getD k (dfl (.st .shape))):Int)),⟨by omega,by simp only;omega,by simp only;omega⟩,by simp only;omega,rfl,rfl⟩
  ·replace a:¬c < (deepF (s.parts.getD k (dfl (.st .shape))):Int):=fun e=>a (Xd e)
   exact ⟨aK hk ln,(k+1,c),⟨by omega,by simp only;omega,by simp only;omega⟩,by simp only;omega,rfl,rfl⟩
 ·replace h:¬((k:Int) < (s.parts.length:Int)):=fun e=>h (Xd e)
  have e:k=s.parts.length:=by omega
  subst e
  rw [List.drop_length] at h3
  simp only [maxDeep] at h3
  exact ⟨bA (by omega) (by omega),by omega⟩
theorem Ba (s:Shape) (hs:Wf (.st .shape) s) :
  (sz s<=sz s/\(0:Int)<=(400:Int)/\(400:Int)<=(1000000:Int))/\if decide ((400:Int) < sizeF s (400:Int))=true then True/\(3:Int)=aA s/\True else sz s<=(400:Nat)/\if decide ((40:Int) < (↑(deepF s):Int))=true then True/\(91:Int)=aA s/\True else sz s<=(400:Nat)/\if (!allS aj s)=true then True/\(70:Int)=aA s/\True else True/\(0:Int)=aA s/\True:=by
 simp only [eq_self,true_and,and_true]
 rw [Fg]
 refine ⟨⟨Nat.le_refl _,by omega,by omega⟩,ab (fun h=>?_) (fun h=>?_)⟩
 ·rw [if_pos (Xo h)]
 ·have h':¬(400:Int) < sizeF s 400:=fun e=>h (Xd e)
  have hs4:sz s<=400:=by rw [sizeF_eq s 400 (by omega)] at h';omega
  rw [if_neg h']
  refine ⟨hs4,ab (fun g=>?_) (fun g=>⟨hs4,?_⟩)⟩
  ·rw [if_pos (Xo g)]
  ·rw [if_neg (fun e=>g (Xd e))]
   cases allS aj s <;> simp
theorem Df (p:Int)  :
  if decide ((0:Int)<=p)=true then if decide (p<=(1114111:Int))=true then if decide (p < (55296:Int))=true then True/\true=dM p/\True else True/\decide ((57343:Int) < p)=dM p/\True else True/\false=dM p/\True else True/\false=dM p/\True:=by
 unfold dM
 by_cases a:0<=p <;> by_cases b:p<=1114111 <;> by_cases c:p < 55296 <;> simp [a,b,c]
theorem Dg (p:Int) (ho:0<=p/\p<=1114111) :
  if decide (p < (128:Int))=true then inR IntKind.u8 p/\True/\List.map (fun (n:Int) ↦UInt8.ofNat (Int.toNat n)) [p]=cK p/\True else if decide (p < (2048:Int))=true then ((64:Int)≠(0:Int)/\inR IntKind.i64 (Int.tdiv p (64:Int)))/\inR IntKind.i64 ((192:Int)+Int.tdiv p (64:Int))/\inR IntKind.u8 ((192:Int)+Int.tdiv p (64:Int))/\((64:Int)≠(0:Int)/\inR IntKind.i64 (Int.tmod p (64:Int)))/\inR IntKind.i64 ((128:Int)+Int.tmod p (64:Int))/\inR IntKind.u8 ((128:Int)+Int.tmod p (64:Int))/\True/\List.map (fun (n:Int) ↦UInt8.ofNat (Int.toNat n)) [(192:Int)+Int.tdiv p (64:Int),(128:Int)+Int.tmod p (64:Int)]=cK p/\True else if decide (p < (65536:Int))=true then ((4096:Int)≠(0:Int)/\inR IntKind.i64 (Int.tdiv p (4096:Int)))/\inR IntKind.i64 ((224:Int)+Int.tdiv p (4096:Int))/\inR IntKind.u8 ((224:Int)+Int.tdiv p (4096:Int))/\((64:Int)≠(0:Int)/\inR IntKind.i64 (Int.tdiv p (64:Int)))/\((64:Int)≠(0:Int)/\inR IntKind.i64 (Int.tmod (Int.tdiv p (64:Int)) (64:Int)))/\inR IntKind.i64 ((128:Int)+Int.tmod (Int.tdiv p (64:Int)) (64:Int))/\inR IntKind.u8 ((128:Int)+Int.tmod (Int.tdiv p (64:Int)) (64:Int))/\((64:Int)≠(0:Int)/\inR IntKind.i64 (Int.tmod p (64:Int)))/\inR IntKind.i64 ((128:Int)+Int.tmod p (64:Int))/\inR IntKind.u8 ((128:Int)+Int.tmod p (64:Int))/\True/\List.map (fun (n:Int) ↦UInt8.ofNat (Int.toNat n)) [(224:Int)+Int.tdiv p (4096:Int),(128:Int)+Int.tmod (Int.tdiv p (64:Int)) (64:Int),(128:Int)+Int.tmod p (64:Int)]=cK p/\True else ((262144:Int)≠(0:Int)/\inR IntKind.i64 (Int.tdiv p (262144:Int)))/\inR IntKind.i64 ((240:Int)+Int.tdiv p (262144:Int))/\inR IntKind.u8 ((240:Int)+Int.tdiv p (262144:Int))/\((4096:Int)≠(0:Int)/\inR IntKind.i64 (Int.tdiv p (4096:Int)))/\((64:Int)≠(0:Int)/\inR IntKind.i64 (Int.tmod (Int.tdiv p (4096:Int)) (64:Int)))/\inR IntKind.i64 ((128:Int)+Int.tmod (Int.tdiv p (4096:Int)) (64:Int))/\inR IntKind.u8 ((128:Int)+Int.tmod (Int.tdiv p (4096:Int)) (64:Int))/\((64:Int)≠(0:Int)/\inR IntKind.i64 (Int.tdiv p (64:Int)))/\((64:Int)≠(0:Int)/\inR IntKind.i64 (Int.tmod (Int.tdiv p (64:Int)) (64:Int)))/\inR IntKind.i64 ((128:Int)+Int.tmod (Int.tdiv p (64:Int)) (64:Int))/\inR IntKind.u8 ((128:Int)+Int.tmod (Int.tdiv p (64:Int)) (64:Int))/\((64:Int)≠(0:Int)/\inR IntKind.i64 (Int.tmod p (64:Int)))/\inR IntKind.i64 ((128:Int)+Int.tmod p (64:Int))/\inR IntKind.u8 ((128:Int)+Int.tmod p (64:Int))/\True/\List.map (fun (n:Int) ↦UInt8.ofNat (Int.toNat n)) [(240:Int)+Int.tdiv p (262144:Int),(128:Int)+Int.tmod (Int.tdiv p (4096:Int)) (64:Int),(128:Int)+Int.tmod (Int.tdiv p (64:Int)) (64:Int),(128:Int)+Int.tmod p (64:Int)]=cK p/\True:=by
 obtain ⟨h1,h2⟩:=ho
 have t1:Int.tdiv p 64=p / 64:=Int.tdiv_eq_ediv_of_nonneg h1
 have t2:Int.tdiv p 4096=p / 4096:=Int.tdiv_eq_ediv_of_nonneg h1
 have t3:Int.tdiv p 262144=p / 262144:=Int.tdiv_eq_ediv_of_nonneg h1
 have m0:Int.tmod p 64=p % 64:=Int.tmod_eq_emod_of_nonneg h1
 have m1:Int.tmod (p / 64) 64=p / 64 % 64:=Int.tmod_eq_emod_of_nonneg (by omega)
 have m2:Int.tmod (p / 4096) 64=p / 4096 % 64:=Int.tmod_eq_emod_of_nonneg (by omega)
 simp only [t1,t2,t3,m0,m1,m2]
 have u8:∀n:Int,0<=n→n<=255→inR IntKind.u8 n:=fun n a b=>⟨a,b⟩
 have i64:∀n:Int,-10000000<=n→n<=10000000→inR IntKind.i64 n:=fun n a b=>bA (by omega) (by omega)
 unfold cK iz
 refine ab (fun a=>?_) (fun a=>?_)
 ·have a:=Xo a
  rw [if_pos a]
  exact ⟨u8 _ (by omega) (by omega),trivial,rfl,trivial⟩
 have a:¬p < 128:=fun e=>a (Xd e)
 rw [if_neg a]
 refine ab (fun b=>?_) (fun b=>?_)
 ·have b:=Xo b
  rw [if_pos b]
  repeat (first | exact trivial | refine ⟨by first | rfl | trivial | (exact ⟨by decide,i64 _ (by omega) (by omega)⟩) | (exact i64 _ (by omega) (by omega)) | (exact u8 _ (by omega) (by omega)),?_⟩)
 have b:¬p < 2048:=fun e=>b (Xd e)
 rw [if_neg b]
 refine ab (fun d=>?_) (fun d=>?_)
 ·have d:=Xo d
  rw [if_pos d]
  repeat (first | exact trivial | refine ⟨by first | rfl | trivial | (exact ⟨by decide,i64 _ (by omega) (by omega)⟩) | (exact i64 _ (by omega) (by omega)) | (exact u8 _ (by omega) (by omega)),?_⟩)
 ·have d:¬p < 65536:=fun e=>d (Xd e)
  rw [if_neg d]
  repeat (first | exact trivial | refine ⟨by first | rfl | trivial | (exact ⟨by decide,i64 _ (by omega) (by omega)⟩) | (exact i64 _ (by omega) (by omega)) | (exact u8 _ (by omega) (by omega)),?_⟩)
theorem Dh (s:Str) (hs:Wf .str s) :
  if decide (s=[])=true then True/\(0:Int)=(cn s).1/\(0:Int)=(cn s).2/\True else ((0:Int)<=(0:Int)/\(0:Int) < (↑(List.length s):Int))/\inR IntKind.i64 (↑(UInt8.toNat (List.getD s (Int.toNat (0:Int)) (0:UInt8))):Int)/\(((0:Int)<=(0:Int)/\(0:Int) < (↑(List.length s):Int))/\if decide ((240:Int)<=(↑(UInt8.toNat (List.getD s (Int.toNat (0:Int)) (0:UInt8))):Int))=true then ((0:Int)<=(0:Int)/\(0:Int) < (↑(List.length s):Int))/\inR IntKind.i64 (↑(UInt8.toNat (List.getD s (Int.toNat (0:Int)) (0:UInt8))):Int)/\inR IntKind.i64 ((↑(UInt8.toNat (List.getD s (Int.toNat (0:Int)) (0:UInt8))):Int) - (240:Int))/\(4:Int)=(↑(bC s):Int)/\(↑(UInt8.toNat (List.getD s (Int.toNat (0:Int)) (0:UInt8))):Int) - (240:Int)=fe s/\s=s/\(0:Int)=(0:Int)/\(0:Int)=(0:Int)/\false=false/\True else ((0:Int)<=(0:Int)/\(0:Int) < (↑(List.length s):Int))/\if decide ((224:Int)<=(↑(UInt8.toNat (List.getD s (Int.toNat (0:Int)) (0:UInt8))):Int))=true then ((0:Int)<=(0:Int)/\(0:Int) < (↑(List.length s):Int))/\inR IntKind.i64 (↑(UInt8.toNat (List.getD s (Int.toNat (0:Int)) (0:UInt8))):Int)/\inR IntKind.i64 ((↑(UInt8.toNat (List.getD s (Int.toNat (0:Int)) (0:UInt8))):Int) - (224:Int))/\(3:Int)=(↑(bC s):Int)/\(↑(UInt8.toNat (List.getD s (Int.toNat (0:Int)) (0:UInt8))):Int) - (224:Int)=fe s/\s=s/\(0:Int)=(0:Int)/\(0:Int)=(0:Int)/\false=false/\True else ((0:Int)<=(0:Int)/\(0:Int) < (↑(List.length s):Int))/\if decide ((192:Int)<=(↑(UInt8.toNat (List.getD s (Int.toNat (0:Int)) (0:UInt8))):Int))=true then ((0:Int)<=(0:Int)/\(0:Int) < (↑(List.length s):Int))/\inR IntKind.i64 (↑(UInt8.toNat (List.getD s (Int.toNat (0:Int)) (0:UInt8))):Int)/\inR IntKind.i64 ((↑(UInt8.toNat (List.getD s (Int.toNat (0:Int)) (0:UInt8))):Int) - (192:Int))/\(2:Int)=(↑(bC s):Int)/\(↑(UInt8.toNat (List.getD s (Int.toNat (0:Int)) (0:UInt8))):Int) - (192:Int)=fe s/\s=s/\(0:Int)=(0:Int)/\(0:Int)=(0:Int)/\false=false/\True else (1:Int)=(↑(bC s):Int)/\(↑(UInt8.toNat (List.getD s (Int.toNat (0:Int)) (0:UInt8))):Int)=fe s/\s=s/\(0:Int)=(0:Int)/\(0:Int)=(0:Int)/\false=false/\True)/\if decide ((↑(List.length s):Int) < (↑(bC s):Int))=true then True/\(0:Int)=(cn s).1/\(0:Int)=(cn s).2/\True else (∃(x:Nat),((1:Nat)<=x/\x<=bC s/\(x=(1:Nat)→(-300:Int)<=aV s x/\aV s x<=(300:Int))/\(x=(2:Nat)→(-20000:Int)<=aV s x/\aV s x<=(20000:Int))/\(x=(3:Nat)→(-1300000:Int)<=aV s x/\aV s x<=(1300000:Int))/\(x=(4:Nat)→(-90000000:Int)<=aV s x/\aV s x<=(90000000:Int)))/\(1:Int)=(↑x:Int)/\fe s=aV s x/\(↑(bC s):Int)=(↑(bC s):Int)/\s=s/\(0:Int)=(0:Int)/\(0:Int)=(0:Int)/\false=false/\false=false/\True)/\∀(x:Nat),(1:Nat)<=x/\x<=bC s/\(x=(1:Nat)→(-300:Int)<=aV s x/\aV s x<=(300:Int))/\(x=(2:Nat)→(-20000:Int)<=aV s x/\aV s x<=(20000:Int))/\(x=(3:Nat)→(-1300000:Int)<=aV s x/\aV s x<=(1300000:Int))/\(x=(4:Nat)→(-90000000:Int)<=aV s x/\aV s x<=(90000000:Int))→if decide ((↑x:Int) < (↑(bC s):Int))=true then inR IntKind.i64 (aV s x *(64:Int))/\((0:Int)<=(↑x:Int)/\(↑x:Int) < (↑(List.length s):Int))/\inR IntKind.i64 (↑(UInt8.toNat (List.getD s (Int.toNat (↑x:Int)) (0:UInt8))):Int)/\inR IntKind.i64 (aV s x *(64:Int)+(↑(UInt8.toNat (List.getD s (Int.toNat (↑x:Int)) (0:UInt8))):Int))/\inR IntKind.i64 (aV s x *(64:Int)+(↑(UInt8.toNat (List.getD s (Int.toNat (↑x:Int)) (0:UInt8))):Int) - (128:Int))/\inR IntKind.i64 ((↑x:Int)+(1:Int))/\∃(y:Nat),((1:Nat)<=y
  /\y<=bC s/\(y=(1:Nat)→(-300:Int)<=aV s y/\aV s y<=(300:Int))/\(y=(2:Nat)→(-20000:Int)<=aV s y/\aV s y<=(20000:Int))/\(y=(3:Nat)→(-1300000:Int)<=aV s y/\aV s y<=(1300000:Int))/\(y=(4:Nat)→(-90000000:Int)<=aV s y/\aV s y<=(90000000:Int)))/\bC s - y < bC s - x/\(↑x:Int)+(1:Int)=(↑y:Int)/\aV s x *(64:Int)+(↑(UInt8.toNat (List.getD s (Int.toNat (↑x:Int)) (0:UInt8))):Int) - (128:Int)=aV s y/\(↑(bC s):Int)=(↑(bC s):Int)/\s=s/\(0:Int)=(0:Int)/\(0:Int)=(0:Int)/\false=false/\false=false/\True else if (!dM (aV s x))=true then True/\(0:Int)=(cn s).1/\(0:Int)=(cn s).2/\True else ((0:Int)<=aV s x/\aV s x<=(1114111:Int))/\((0:Int)<=(0:Int)/\(0:Int)<=(↑(bC s):Int)/\(↑(bC s):Int)<=(↑(List.length s):Int))/\if (!decide (cK (aV s x)=List.drop (Int.toNat (0:Int)) (List.take (Int.toNat (↑(bC s):Int)) s)))=true then True/\(0:Int)=(cn s).1/\(0:Int)=(cn s).2/\True else True/\aV s x=(cn s).1/\(↑(bC s):Int)=(cn s).2/\True:=by
 have ln:=hs.str
 refine ab (fun h=>?_) (fun h=>?_)
 ·have h:=Xo h
  subst h
  exact ⟨trivial,rfl,rfl,trivial⟩
 have hne:s≠[]:=fun e=>h (Xd e)
 have hpos:=List.length_pos_iff.2 hne
 have eb:∀b:UInt8,(b.toNat:Int)=bI b:=fun _=>rfl
 simp only [eb,Int.toNat_zero,Int.toNat_natCast]
 obtain ⟨n1,n2⟩:=EK (s.getD 0 0)
 have i64:∀n:Int,-10000000000<=n→n<=10000000000→inR IntKind.i64 n:=fun n a b=>bA (by omega) (by omega)
 have l0:(0:Int)<=0/\(0:Int) < (s.length:Int):=⟨by omega,by omega⟩
 have hL:bC s=if 240<=bI (s.getD 0 0) then 4 else if 224<=bI (s.getD 0 0) then 3 else if 192<=bI (s.getD 0 0) then 2 else 1:=rfl
 have h0:fe s=if 240<=bI (s.getD 0 0) then bI (s.getD 0 0) - 240 else if 224<=bI (s.getD 0 0) then bI (s.getD 0 0) - 224 else if 192<=bI (s.getD 0 0) then bI (s.getD 0 0) - 192 else bI (s.getD 0 0):=rfl
 refine ⟨l0,i64 _ (by omega) (by omega),⟨l0,ab (fun a=>?_) (fun a=>⟨l0,ab (fun b=>?_) (fun b=>⟨l0,ab (fun c=>?_) (fun c=>?_)⟩)⟩)⟩,?_⟩
 ·have a:=Xo a
  rw [if_pos a] at hL h0
  refine ⟨l0,i64 _ (by omega) (by omega),i64 _ (by omega) (by omega),by rw [hL];rfl,h0.symm,?_⟩
  exact Xr
 ·have a:¬240<=bI (s.getD 0 0):=fun e=>a (Xd e)
  have b:=Xo b
  rw [if_neg a,if_pos b] at hL h0
  refine ⟨l0,i64 _ (by omega) (by omega),i64 _ (by omega) (by omega),by rw [hL];rfl,h0.symm,?_⟩
  exact Xr
 ·have a:¬240<=bI (s.getD 0 0):=fun e=>a (Xd e)
  have b:¬224<=bI (s.getD 0 0):=fun e=>b (Xd e)
  have c:=Xo c
  rw [if_neg a,if_neg b,if_pos c] at hL h0
  refine ⟨l0,i64 _ (by omega) (by omega),i64 _ (by omega) (by omega),by rw [hL];rfl,h0.symm,?_⟩
  exact Xr
 ·have a:¬240<=bI (s.getD 0 0):=fun e=>a (Xd e)
  have b:¬224<=bI (s.getD 0 0):=fun e=>b (Xd e)
  have c:¬192<=bI (s.getD 0 0):=fun e=>c (Xd e)
  rw [if_neg a,if_neg b,if_neg c] at hL h0
  refine ⟨by rw [hL];rfl,h0.symm,?_⟩
  exact Xr
 have hb0:-300<=fe s/\fe s<=300:=by rw [h0];(repeat' split) <;> omega
 have hb1:1<=bC s/\bC s<=4:=by rw [hL];(repeat' split) <;> omega
 clear hL h0 n1 n2
 refine ab (fun a=>?_) (fun a=>?_)
 ·have a:=Xo a
  have e:cn s=(0,0):=by unfold cn;rw [if_neg hne,if_pos (by omega)]
  rw [e]
  exact ⟨trivial,rfl,rfl,trivial⟩
 have a:¬(s.length:Int) < (bC s:Int):=fun e=>a (Xd e)
 have hF:cn s=if dM (aV s (bC s))=true/\cK (aV s (bC s))=s.take (bC s) then (aV s (bC s),(bC s:Int)) else (0,0):=by unfold cn;rw [if_neg hne,if_neg (by omega)]
 refine ⟨⟨1,⟨Nat.le_refl _,hb1.1,fun _=>hb0,fun e=>by omega,fun e=>by omega,fun e=>by omega⟩,?_⟩,?_⟩
 ·exact Xr
 rintro k ⟨k1,k2,k3,k4,k5,k6⟩
 refine ab (fun b=>?_) (fun b=>?_)
 ·have b:k < bC s:=by have:=Xo b;omega
  obtain ⟨m1,m2⟩:=EK (s.getD k 0)
  have hf:aV s (k+1)=aV s k *64+bI (s.getD k 0) - 128:=by
   obtain ⟨j,rfl⟩:∃j,k=j+1:=⟨k - 1,by omega⟩
   rfl
  have hk:k=1∨k=2∨k=3:=by omega
  have hb:-1300000<=aV s k/\aV s k<=1300000:=by
   rcases hk with e | e | e
   ·have:=k3 e;omega
   ·have:=k4 e;omega
   ·exact k5 e
  refine ⟨i64 _ (by omega) (by omega),⟨by omega,by omega⟩,i64 _ (by omega) (by omega),i64 _ (by omega) (by omega),i64 _ (by omega) (by omega),i64 _ (by omega) (by omega),k+1,⟨by omega,by omega,fun e=>by omega,fun e=>by have:=k3 (by omega);omega,fun e=>by have:=k4 (by omega);omega,fun e=>by have:=k5 (by omega);omega⟩,by omega,by omega,hf.symm,?_⟩
  exact Xr
 ·have b:k=bC s:=by
   have:¬((k:Int) < (bC s:Int)):=fun e=>b (Xd e)
   omega
  subst b
  simp only [List.drop_zero]
  refine ab (fun c=>?_) (fun c=>?_)
  ·rw [if_neg (fun e=>by rw [e.1] at c;cases c)] at hF
   rw [hF]
   exact ⟨trivial,rfl,rfl,trivial⟩
  have c:dM (aV s (bC s))=true:=by simpa using c
  have c':=c
  unfold dM at c'
  simp only [Bool.and_eq_true,decide_eq_true_eq] at c'
  refine ⟨⟨c'.1.1,c'.1.2⟩,⟨by omega,by omega,by omega⟩,ab (fun d=>?_) (fun d=>?_)⟩
  ·have d:¬cK (aV s (bC s))=s.take (bC s):=by simpa using d
   rw [if_neg (fun e=>d e.2)] at hF
   rw [hF]
   exact ⟨trivial,rfl,rfl,trivial⟩
  ·have d:cK (aV s (bC s))=s.take (bC s):=by simpa using d
   rw [if_pos ⟨c,d⟩] at hF
   rw [hF]
   exact ⟨trivial,rfl,rfl,trivial⟩
theorem Bb (ns:List Str) (b:Bool) (hl:Wf (.lst .str) ns) :
  (∃(x:Nat),(x<=List.length ns/\List.all (List.take x ns) ay=true/\(b=true→List.Nodup (List.take x ns)))/\(0:Int)=(↑x:Int)/\ns=ns/\b=b/\True)/\∀(x:Nat),x<=List.length ns/\List.all (List.take x ns) ay=true/\(b=true→List.Nodup (List.take x ns))→if decide ((↑x:Int) < (↑(List.length ns):Int))=true then ((0:Int)<=(↑x:Int)/\(↑x:Int) < (↑(List.length ns):Int))/\if (!ay (List.getD ns (Int.toNat (↑x:Int)) (dfl Ty.str)))=true then True/\false=dN ns b/\True else (∃(x_1:Nat),((↑x_1:Int)<=(↑x:Int)/\(b=true→¬List.getD ns (Int.toNat (↑x:Int)) (dfl Ty.str)∈List.take x_1 ns)/\(b=false→x_1=(0:Nat)))/\(0:Int)=(↑x_1:Int)/\(↑x:Int)=(↑x:Int)/\ns=ns/\b=b/\true=true/\false=false/\True)/\∀(x_1:Nat),(↑x_1:Int)<=(↑x:Int)/\(b=true→¬List.getD ns (Int.toNat (↑x:Int)) (dfl Ty.str)∈List.take x_1 ns)/\(b=false→x_1=(0:Nat))→if decide ((↑x_1:Int) < (↑x:Int))=true then if b=true then ((0:Int)<=(↑x_1:Int)/\(↑x_1:Int) < (↑(List.length ns):Int))/\((0:Int)<=(↑x:Int)/\(↑x:Int) < (↑(List.length ns):Int))/\if decide (List.getD ns (Int.toNat (↑x_1:Int)) (dfl Ty.str)=List.getD ns (Int.toNat (↑x:Int)) (dfl Ty.str))=true then True/\false=dN ns b/\True else inR IntKind.i64 ((↑x_1:Int)+(1:Int))/\∃(y:Nat),((↑y:Int)<=(↑x:Int)/\(b=true→¬List.getD ns (Int.toNat (↑x:Int)) (dfl Ty.str)∈List.take y ns)/\(b=false→y=(0:Nat)))/\Int.toNat (↑x:Int) - y < Int.toNat (↑x:Int) - x_1/\(↑x_1:Int)+(1:Int)=(↑y:Int)/\(↑x:Int)=(↑x:Int)/\ns=ns/\b=b/\true=true/\false=false/\True else inR IntKind.i64 ((↑x:Int)+(1:Int))/\∃(y:Nat),(y<=List.length ns/\List.all (List.take y ns) ay=true/\(b=true→List.Nodup (List.take y ns)))/\List.length ns - y < List.length ns - x/\(↑x:Int)+(1:Int)=(↑y:Int)/\ns=ns/\b=b/\True else inR IntKind.i64 ((↑x:Int)+(1:Int))/\∃(y:Nat),(y<=List.length ns/\List.all (List.take y ns) ay=true/\(b=true→List.Nodup (List.take y ns)))/\List.length ns - y < List.length ns - x/\(↑x:Int)+(1:Int)=(↑y:Int)/\ns=ns/\b=b/\True else True/\true=dN ns b/\True:=by
 have ln:=hl.len
 simp only [Int.toNat_natCast,eq_self,true_and,and_true]
 refine ⟨⟨0,⟨Nat.zero_le _,by simp,by simp⟩,rfl⟩,?_⟩
 rintro k ⟨h1,h2,h3⟩
 refine ab (fun h=>?_) (fun h=>?_)
 ·replace h:=Xo h
  have hk:k < ns.length:=by omega
  have hmem:=getD_mem ns k (dfl .str) hk
  have ht:=eD ns k (dfl .str) hk
  refine ⟨by omega,ab (fun a=>?_) (fun a=>?_)⟩
  ·have a':ns.all ay=false:=by
    rw [Bool.eq_false_iff]
    intro e
    have:=List.all_eq_true.1 e _ hmem
    rw [this] at a
    simp at a
   unfold dN
   rw [a']
   simp
  ·have a':ay (ns.getD k (dfl .str))=true:=by simpa using a
   refine ⟨⟨0,⟨by omega,by simp,fun _=>rfl⟩,rfl⟩,?_⟩
   rintro j ⟨j1,j2,j3⟩
   have nextk:(b=true→j=k)→inR IntKind.i64 ((k:Int)+1)/\∃y:Nat,(y<=ns.length/\(ns.take y).all ay=true/\(b=true→(ns.take y).Nodup))/\ns.length - y < ns.length - k/\(k:Int)+1=(y:Int):=by
    intro hjk
    refine ⟨aK hk ln,k+1,⟨by omega,?_,fun hb=>?_⟩,by omega,by omega⟩
    ·rw [ht,List.all_append,h2];simpa using a'
    ·obtain rfl:=hjk hb
     rw [ht,List.nodup_append]
     refine ⟨h3 hb,by simp,fun x hx y hy=>?_⟩
     rw [List.mem_singleton] at hy
     subst hy
     intro e
     subst e
     exact j2 hb hx
   refine ab (fun b1=>?_) (fun b1=>?_)
   ·replace b1:=Xo b1
    have hj:j < k:=by omega
    have hjn:j < ns.length:=by omega
    have htj:=eD ns j (dfl .str) hjn
    refine ab (fun hb=>?_) (fun hb=>?_)
    ·refine ⟨by omega,by omega,ab (fun c=>?_) (fun c=>?_)⟩
     ·replace c:=Xo c
      have hnd:¬ns.Nodup:=by
       intro hn
       rw [List.nodup_iff_pairwise_ne] at hn
       have:=List.pairwise_iff_getElem.1 hn j k hjn hk hj
       rw [List.getD_eq_getElem?_getD,List.getD_eq_getElem?_getD,List.getElem?_eq_getElem hjn,List.getElem?_eq_getElem hk] at c
       exact this c
      unfold dN
      simp [hnd,hb]
     ·refine ⟨aK hjn ln,j+1,⟨by omega,fun _=>?_,fun q=>by rw [hb] at q;cases q⟩,by omega,by omega⟩
      rw [htj,List.mem_append,List.mem_singleton,not_or]
      exact ⟨j2 hb,fun e=>c (Xd e.symm)⟩
    ·exact nextk (fun q=>absurd q hb)
   ·refine nextk (fun _=>?_)
    have:¬((j:Int) < (k:Int)):=fun e=>b1 (Xd e)
    omega
 ·replace h:¬((k:Int) < (ns.length:Int)):=fun e=>h (Xd e)
  have e:k=ns.length:=by omega
  subst e
  rw [List.take_length] at h2 h3
  unfold dN
  rw [h2]
  cases b
  ·simp
  ·simp [h3]
theorem xQ (n:Nat) (s:Shape) (hs:Wf (.st .shape) s) (hn:sz s<=n+1) :
  (∃(x:Nat),(x<=List.length s.parts/\allS aT s=(aT s && allL aT (List.drop x s.parts)))/\(0:Int)=(↑x:Int)/\s=s/\s=s/\True)/\∀(x:Nat),x<=List.length s.parts/\allS aT s=(aT s && allL aT (List.drop x s.parts))→if decide ((↑x:Int) < (↑(List.length s.parts):Int))=true then ((0:Int)<=(↑x:Int)/\(↑x:Int) < (↑(List.length s.parts):Int))/\sz (List.getD s.parts (Int.toNat (↑x:Int)) (dfl (Ty.st SN.shape)))<=n/\if (!allS aT (List.getD s.parts (Int.toNat (↑x:Int)) (dfl (Ty.st SN.shape))))=true then True/\true=!allS aT s/\True else inR IntKind.i64 ((↑x:Int)+(1:Int))/\∃(y:Nat),(y<=List.length s.parts/\allS aT s=(aT s && allL aT (List.drop y s.parts)))/\List.length s.parts - y < List.length s.parts - x/\(↑x:Int)+(1:Int)=(↑y:Int)/\s=s/\s=s/\True else True/\decide (s.kind=(10:Int))=!allS aT s/\True:=by
 have ln:=hs.parts.len
 have hz:=fK s
 simp only [Int.toNat_natCast,eq_self,true_and,and_true]
 refine ⟨⟨0,⟨Nat.zero_le _,by rw [fD];rfl⟩,rfl⟩,?_⟩
 rintro k ⟨h1,h3⟩
 refine ab (fun h=>?_) (fun h=>?_)
 ·replace h:=Xo h
  have hk:k < s.parts.length:=by omega
  have hm:=dr (getD_mem s.parts k (dfl (.st .shape)) hk)
  rw [aE s.parts k (dfl (.st .shape)) hk] at h3
  simp only [allL] at h3
  refine ⟨by omega,by omega,ab (fun e=>?_) (fun e=>?_)⟩
  ·have e:allS aT (s.parts.getD k (dfl (.st .shape)))=false:=by simpa using e
   rw [e] at h3;rw [h3];simp
  ·have e:allS aT (s.parts.getD k (dfl (.st .shape)))=true:=by simpa using e
   rw [e,Bool.true_and] at h3
   exact ⟨aK hk ln,k+1,⟨by omega,h3⟩,by omega,by omega⟩
 ·replace h:¬((k:Int) < (s.parts.length:Int)):=fun e=>h (Xd e)
  have e:k=s.parts.length:=by omega
  subst e
  rw [h3,List.drop_length]
  simp [allL,aT]
theorem xR (l:List Shape) (hl:Wf (.lst (.st .shape)) l) :
  (∃(x:Nat),(x<=List.length l/\List.all l bf=List.all (List.drop x l) bf)/\(0:Int)=(↑x:Int)/\l=l/\True)/\∀(x:Nat),x<=List.length l/\List.all l bf=List.all (List.drop x l) bf→if decide ((↑x:Int) < (↑(List.length l):Int))=true then ((0:Int)<=(↑x:Int)/\(↑x:Int) < (↑(List.length l):Int))/\if (!decide (aA (List.getD l (Int.toNat (↑x:Int)) (dfl (Ty.st SN.shape)))=(0:Int)))=true then True/\false=List.all l bf/\True else ((0:Int)<=(↑x:Int)/\(↑x:Int) < (↑(List.length l):Int))/\sz (List.getD l (Int.toNat (↑x:Int)) (dfl (Ty.st SN.shape)))<=(400:Nat)/\if (!allS aT (List.getD l (Int.toNat (↑x:Int)) (dfl (Ty.st SN.shape))))=true then True/\false=List.all l bf/\True else inR IntKind.i64 ((↑x:Int)+(1:Int))/\∃(y:Nat),(y<=List.length l/\List.all l bf=List.all (List.drop y l) bf)/\List.length l - y < List.length l - x/\(↑x:Int)+(1:Int)=(↑y:Int)/\l=l/\True else True/\true=List.all l bf/\True:=by
 have ln:=hl.len
 simp only [Int.toNat_natCast,eq_self,true_and,and_true]
 refine ⟨⟨0,⟨Nat.zero_le _,rfl⟩,rfl⟩,?_⟩
 rintro k ⟨h1,h3⟩
 refine ab (fun h=>?_) (fun h=>?_)
 ·replace h:=Xo h
  have hk:k < l.length:=by omega
  rw [aE l k (dfl (.st .shape)) hk,List.all_cons] at h3
  have ht:bf (l.getD k (dfl (.st .shape)))=(decide (aA (l.getD k (dfl (.st .shape)))=0) && allS aT (l.getD k (dfl (.st .shape)))):=rfl
  refine ⟨by omega,ab (fun c=>?_) (fun c=>?_)⟩
  ·have c:¬aA (l.getD k (dfl (.st .shape)))=0:=by simpa using c
   rw [ht,Xf c,Bool.false_and,Bool.false_and] at h3
   rw [h3]
  ·have c:aA (l.getD k (dfl (.st .shape)))=0:=by simpa using c
   have hz:sz (l.getD k (dfl (.st .shape)))<=400:=by
    unfold aA at c
    by_cases q:400 < sz (l.getD k (dfl (.st .shape)))
    ·rw [if_pos q] at c;exact absurd c (by decide)
    ·omega
   rw [ht,Xd c,Bool.true_and] at h3
   refine ⟨by omega,hz,ab (fun e=>?_) (fun e=>?_)⟩
   ·have e:allS aT (l.getD k (dfl (.st .shape)))=false:=by simpa using e
    rw [e,Bool.false_and] at h3
    rw [h3]
   ·have e:allS aT (l.getD k (dfl (.st .shape)))=true:=by simpa using e
    rw [e,Bool.true_and] at h3
    exact ⟨aK hk ln,k+1,⟨by omega,h3⟩,by omega,by omega⟩
 ·replace h:¬((k:Int) < (l.length:Int)):=fun e=>h (Xd e)
  have e:k=l.length:=by omega
  subst e
  rw [h3,List.drop_length];rfl
theorem Bc (t:Trm) (n v s p:Int)  :
  if decide ((↑(List.length t.names):Int)=n)=true then if decide ((↑(List.length t.vars):Int)=v)=true then if decide ((↑(List.length t.shapes):Int)=s)=true then True/\decide ((↑(List.length t.parts):Int)=p)=aS t n v s p/\True else True/\false=aS t n v s p/\True else True/\false=aS t n v s p/\True else True/\false=aS t n v s p/\True:=by
 unfold aS
 repeat' (refine ab (fun _=>?_) (fun _=>?_))
 all_goals simp_all
theorem xS (s:Str) (hs:Wf .str s) (ho:s.length<=2000000) :
  (∃(x:Nat × Nat × List Int),(x.2.1<=List.length s/\List.length s - x.2.1 < x.1/\List.length x.2.2<=x.2.1/\j8 s x.1 x.2.1 x.2.2=ep s)/\(0:Int)=(↑x.2.1:Int)/\x.2.2=[]/\s=s/\List.length x.2.2=(0:Nat)/\(0:Int)=(0:Int)/\(0:Int)=(0:Int)/\True)/\∀(x:Nat × Nat × List Int),x.2.1<=List.length s/\List.length s - x.2.1 < x.1/\List.length x.2.2<=x.2.1/\j8 s x.1 x.2.1 x.2.2=ep s→if decide ((↑x.2.1:Int) < (↑(List.length s):Int))=true then ((0:Int)<=(↑x.2.1:Int)/\(↑x.2.1:Int)<=(↑(List.length s):Int)/\(↑(List.length s):Int)<=(↑(List.length s):Int))/\if decide ((cn (List.drop (Int.toNat (↑x.2.1:Int)) (List.take (Int.toNat (↑(List.length s):Int)) s))).2=(0:Int))=true then True/\(ep s).1=[]/\(30:Int)=(ep s).2.err/\(↑x.2.1:Int)=(ep s).2.pos/\True else (List.length x.2.2=List.length x.2.2/\(List.length x.2.2+List.length [(cn (List.drop (Int.toNat (↑x.2.1:Int)) (List.take (Int.toNat (↑(List.length s):Int)) s))).1]) *(8:Nat)<=(140737488355328:Nat))/\inR IntKind.i64 ((↑x.2.1:Int)+(cn (List.drop (Int.toNat (↑x.2.1:Int)) (List.take (Int.toNat (↑(List.length s):Int)) s))).2)/\∃(y:Nat × Nat × List Int),(y.2.1<=List.length s/\List.length s - y.2.1 < y.1/\List.length y.2.2<=y.2.1/\j8 s y.1 y.2.1 y.2.2=ep s)/\List.length s - y.2.1 < List.length s - x.2.1/\(↑x.2.1:Int)+(cn (List.drop (Int.toNat (↑x.2.1:Int)) (List.take (Int.toNat (↑(List.length s):Int)) s))).2=(↑y.2.1:Int)/\x.2.2++[(cn (List.drop (Int.toNat (↑x.2.1:Int)) (List.take (Int.toNat (↑(List.length s):Int)) s))).1]=y.2.2/\s=s/\List.length (x.2.2++[(cn (List.drop (Int.toNat (↑x.2.1:Int)) (List.take (Int.toNat (↑(List.length s):Int)) s))).1])=List.length y.2.2/\(0:Int)=(0:Int)/\(0:Int)=(0:Int)/\True else True/\x.2.2=(ep s).1/\(0:Int)=(ep s).2.err/\(0:Int)=(ep s).2.pos/\True:=by
 have ln:=hs.str
 simp only [Int.toNat_natCast,eq_self,true_and,and_true,List.take_length,ui]
 refine ⟨⟨(s.length+1,0,[]),⟨Nat.zero_le _,by simp,by simp,rfl⟩,by simp,rfl,rfl⟩,?_⟩
 rintro ⟨f,i,acc⟩ ⟨h1,h2,h3,h4⟩
 simp only at h1 h2 h3 h4 ⊢
 obtain ⟨g,rfl⟩:∃g,f=g+1:=⟨f - 1,by omega⟩
 rw [j8] at h4
 refine ab (fun h=>?_) (fun h=>?_)
 ·replace h:=Xo h
  have hk:i < s.length:=by omega
  rw [if_pos hk] at h4
  refine ⟨by omega,ab (fun e=>?_) (fun e=>?_)⟩
  ·have e:gJ (s.drop i)=0:=by have:=Xo e;omega
   rw [if_pos e] at h4
   rw [←h4]
   exact ⟨rfl,rfl,rfl⟩
  ·have e:¬gJ (s.drop i)=0:=fun q=>e (Xd (by omega))
   rw [if_neg e] at h4
   have hu:=yR (s:=s) (n:=i) h1
   refine ⟨by simp only [List.length_singleton];omega,bA (by omega) (by omega),(g,i+gJ (s.drop i),acc++[(cn (s.drop i)).1]),⟨hu,by simp only;omega,by simp only [List.length_append,List.length_singleton];omega,h4⟩,by simp only;omega,by simp only;omega,rfl,rfl⟩
 ·have hk:¬i < s.length:=fun e=>h (Xd (by omega))
  rw [if_neg hk] at h4
  rw [←h4]
  exact ⟨rfl,rfl,rfl⟩
theorem Di (s:Str) (hs:Wf .str s) (ho:s.length<=2000000) :
  (∃(x:Nat),(x<=List.length s/\List.all s bZ=List.all (List.drop x s) bZ)/\(0:Int)=(↑x:Int)/\s=s/\True)/\∀(x:Nat),x<=List.length s/\List.all s bZ=List.all (List.drop x s) bZ→if decide ((↑x:Int) < (↑(List.length s):Int))=true then ((0:Int)<=(↑x:Int)/\(↑x:Int) < (↑(List.length s):Int))/\if decide ((↑(UInt8.toNat (List.getD s (Int.toNat (↑x:Int)) (0:UInt8))):Int) < (32:Int))=true then ((0:Int)<=(↑x:Int)/\(↑x:Int) < (↑(List.length s):Int))/\if (!decide ((↑(UInt8.toNat (List.getD s (Int.toNat (↑x:Int)) (0:UInt8))):Int)=(9:Int)))=true then ((0:Int)<=(↑x:Int)/\(↑x:Int) < (↑(List.length s):Int))/\if (!decide ((↑(UInt8.toNat (List.getD s (Int.toNat (↑x:Int)) (0:UInt8))):Int)=(10:Int)))=true then True/\false=fL s/\True else inR IntKind.i64 ((↑x:Int)+(1:Int))/\∃(y:Nat),(y<=List.length s/\List.all s bZ=List.all (List.drop y s) bZ)/\List.length s - y < List.length s - x/\(↑x:Int)+(1:Int)=(↑y:Int)/\s=s/\True else inR IntKind.i64 ((↑x:Int)+(1:Int))/\∃(y:Nat),(y<=List.length s/\List.all s bZ=List.all (List.drop y s) bZ)/\List.length s - y < List.length s - x/\(↑x:Int)+(1:Int)=(↑y:Int)/\s=s/\True else inR IntKind.i64 ((↑x:Int)+(1:Int))/\∃(y:Nat),(y<=List.length s/\List.all s bZ=List.all (List.drop y s) bZ)/\List.length s - y < List.length s - x/\(↑x:Int)+(1:Int)=(↑y:Int)/\s=s/\True else List.length s<=(2000000:Nat)/\True/\decide ((ep s).2.err=(0:Int))=fL s/\True:=by
 have ln:=hs.str
 simp only [Int.toNat_natCast,eq_self,true_and,and_true]
 refine ⟨⟨0,⟨Nat.zero_le _,rfl⟩,rfl⟩,?_⟩
 rintro k ⟨h1,h3⟩
 refine ab (fun h=>?_) (fun h=>?_)
 ·replace h:=Xo h
  have hk:k < s.length:=by omega
  rw [aE s k 0 hk,List.all_cons] at h3
  have hq:=qI (s.getD k 0)
  have eb:(UInt8.toNat (s.getD k 0):Int)=bI (s.getD k 0):=rfl
  clear eb
  have nx:bZ (s.getD k 0)=true→inR IntKind.i64 ((k:Int)+1)/\∃y:Nat,(y<=s.length/\s.all bZ=(s.drop y).all bZ)/\s.length - y < s.length - k/\(k:Int)+1=(y:Int):=by
   intro q
   rw [q,Bool.true_and] at h3
   exact ⟨aK hk ln,k+1,⟨by omega,h3⟩,by omega,by omega⟩
  have nq:¬(bI (s.getD k 0) < 32/\bI (s.getD k 0)≠10/\bI (s.getD k 0)≠9)→bZ (s.getD k 0)=true:=fun e=>by
   cases q:bZ (s.getD k 0)
   ·exact absurd (hq.1 q) e
   ·rfl
  refine ⟨by omega,ab (fun a=>?_) (fun a=>?_)⟩
  ·replace a:=Xo a
   refine ⟨by omega,ab (fun c=>?_) (fun c=>?_)⟩
   ·have c:¬(UInt8.toNat (s.getD k 0):Int)=9:=by simpa using c
    refine ⟨by omega,ab (fun d=>?_) (fun d=>?_)⟩
    ·have d:¬(UInt8.toNat (s.getD k 0):Int)=10:=by simpa using d
     rw [hq.2 ⟨a,d,c⟩,Bool.false_and] at h3
     unfold fL
     rw [h3]
     rfl
    ·have d:(UInt8.toNat (s.getD k 0):Int)=10:=by simpa using d
     exact nx (nq (fun e=>e.2.1 d))
   ·have c:(UInt8.toNat (s.getD k 0):Int)=9:=by simpa using c
    exact nx (nq (fun e=>e.2.2 c))
  ·exact nx (nq (fun e=>a (Xd e.1)))
 ·have e:k=s.length:=by
   have:¬((k:Int) < (s.length:Int)):=fun e=>h (Xd e)
   omega
  subst e
  rw [List.drop_length] at h3
  exact ⟨ho,xb h3⟩
theorem Dj (t:Trm) (ht:Wf (.st .term) t) (ho:t.name.length<=2000000/\t.names.length<=2000000) :
  if decide (t.pos < (0:Int))=true then True/\false=ag t/\True else if (!dN t.names true)=true then True/\false=ag t/\True else if (!dN t.vars false)=true then True/\false=ag t/\True else if (!List.all t.shapes bf)=true then True/\false=ag t/\True else if (!decide (t.kind=(1:Int)))=true then if (!decide (t.n=(0:Int)))=true then True/\false=ag t/\True else if (!decide (t.kind=(5:Int)))=true then if (!decide (t.pkg=[]))=true then True/\false=ag t/\True else if decide (t.kind=(1:Int))=true then if decide (t.name=[])=true then if decide ((0:Int)<=t.n)=true then if decide (t.n<=(999999999999999:Int))=true then True/\aS t (0:Int) (0:Int) (0:Int) (0:Int)=ag t/\True else True/\false=ag t/\True else True/\false=ag t/\True else True/\false=ag t/\True else if decide (t.kind=(2:Int))=true then List.length t.name<=(2000000:Nat)/\if fL t.name=true then True/\aS t (0:Int) (0:Int) (0:Int) (0:Int)=ag t/\True else True/\false=ag t/\True else if decide (t.kind=(3:Int))=true then if decide (t.name=[])=true then True/\aS t (0:Int) (0:Int) (0:Int) (0:Int)=ag t/\True else True/\false=ag t/\True else if decide (t.kind=(4:Int))=true then if decide (t.name=[])=true then True/\aS t (0:Int) (0:Int) (0:Int) (0:Int)=ag t/\True else True/\false=ag t/\True else if decide (t.kind=(5:Int))=true then if ay t.name=true then if decide (t.pkg=[])=true then True/\aS t (0:Int) (0:Int) (0:Int) (0:Int)=ag t/\True else if ay t.pkg=true then True/\aS t (0:Int) (0:Int) (0:Int) (0:Int)=ag t/\True else True/\false=ag t/\True else True/\false=ag t/\True else if decide (t.kind=(6:Int))=true then if decide (t.name=[])=true then if decide ((↑(List.length t.names):Int)<=(4096:Int))=true then True/\aS t (↑(List.length t.names):Int) (0:Int) (↑(List.length t.names):Int) (1:Int)=ag t/\True else True/\false=ag t/\True else True/\false=ag t/\True else if decide (t.kind=(7:Int))=true then if decide (t.name=[])=true then if decide ((1:Int)<=(↑(List.length t.parts):Int))=true then True/\aS t (0:Int) (0:Int) (0:Int) (↑(List.length t.parts):Int)=ag t/\True else True/\false=ag t/\True else True/\false=ag t/\True else if decide (t.kind=(8:Int))=true then if decide (t.name=[])=true then True/\aS t (↑(List.length t.names):Int) (0:Int) (0:Int) (↑(List.length t.names):Int)=ag t/\True else True/\false=ag t/\True else if decide (t.kind=(9:Int))=true then if ay t.name=true then True/\aS t (0:Int) (0:Int) (0:Int) (1:Int)=ag t/\True else True/\false=ag t/\True else if decide (t.kind=(10:Int))=true then if ay t.name=true then True/\aS t (0:Int) (0:Int) (0:Int) (1:Int)=ag t/\True else True/\false=ag t/\True else if decide (t.kind=(11:Int))=true then if decide (t.name=[])=true then True/\aS t (0:Int) (0:Int) (1:Int) (↑(List.length t.parts):Int)=ag t/\True else True/\false=ag t/\True else if decide (t.kind=(12:Int))=true then if decide (t.name=[])=true then True/\aS t (0:Int) (0:Int) (1:Int) (3:Int)=ag t/\True else True/\false=ag t/\True else if decide (t.kind=(13:Int))=true then if decide (t.name=[])=true then inR IntKind.i64 ((↑(List.length t.names):Int)+(1:Int))/\inR IntKind.i64 ((↑(List.length t.names):Int)+(1:Int))/\True/\aS t (↑(List.length t.names):Int) (↑(List.length t.names):Int) ((↑(List.length t.names):Int)+(1:Int)) ((↑(List.length t.names):Int)+(1:Int))=ag t/\True else True/\false=ag t/\True else if decide (t.kind=(14:Int))=true
  then if ay t.name=true then True/\aS t (0:Int) (0:Int) (0:Int) (2:Int)=ag t/\True else True/\false=ag t/\True else if decide (t.kind=(15:Int))=true then if decide (t.name=[])=true then True/\aS t (0:Int) (0:Int) (1:Int) (1:Int)=ag t/\True else True/\false=ag t/\True else if decide (t.kind=(16:Int))=true then if aQ t.name=true then True/\aS t (0:Int) (0:Int) (0:Int) (1:Int)=ag t/\True else True/\false=ag t/\True else if decide (t.kind=(17:Int))=true then if aQ t.name=true then True/\aS t (0:Int) (0:Int) (0:Int) (1:Int)=ag t/\True else True/\false=ag t/\True else True/\false=ag t/\True else if decide (t.kind=(1:Int))=true then if decide (t.name=[])=true then if decide ((0:Int)<=t.n)=true then if decide (t.n<=(999999999999999:Int))=true then True/\aS t (0:Int) (0:Int) (0:Int) (0:Int)=ag t/\True else True/\false=ag t/\True else True/\false=ag t/\True else True/\false=ag t/\True else if decide (t.kind=(2:Int))=true then List.length t.name<=(2000000:Nat)/\if fL t.name=true then True/\aS t (0:Int) (0:Int) (0:Int) (0:Int)=ag t/\True else True/\false=ag t/\True else if decide (t.kind=(3:Int))=true then if decide (t.name=[])=true then True/\aS t (0:Int) (0:Int) (0:Int) (0:Int)=ag t/\True else True/\false=ag t/\True else if decide (t.kind=(4:Int))=true then if decide (t.name=[])=true then True/\aS t (0:Int) (0:Int) (0:Int) (0:Int)=ag t/\True else True/\false=ag t/\True else if decide (t.kind=(5:Int))=true then if ay t.name=true then if decide (t.pkg=[])=true then True/\aS t (0:Int) (0:Int) (0:Int) (0:Int)=ag t/\True else if ay t.pkg=true then True/\aS t (0:Int) (0:Int) (0:Int) (0:Int)=ag t/\True else True/\false=ag t/\True else True/\false=ag t/\True else if decide (t.kind=(6:Int))=true then if decide (t.name=[])=true then if decide ((↑(List.length t.names):Int)<=(4096:Int))=true then True/\aS t (↑(List.length t.names):Int) (0:Int) (↑(List.length t.names):Int) (1:Int)=ag t/\True else True/\false=ag t/\True else True/\false=ag t/\True else if decide (t.kind=(7:Int))=true then if decide (t.name=[])=true then if decide ((1:Int)<=(↑(List.length t.parts):Int))=true then True/\aS t (0:Int) (0:Int) (0:Int) (↑(List.length t.parts):Int)=ag t/\True else True/\false=ag t/\True else True/\false=ag t/\True else if decide (t.kind=(8:Int))=true then if decide (t.name=[])=true then True/\aS t (↑(List.length t.names):Int) (0:Int) (0:Int) (↑(List.length t.names):Int)=ag t/\True else True/\false=ag t/\True else if decide (t.kind=(9:Int))=true then if ay t.name=true then True/\aS t (0:Int) (0:Int) (0:Int) (1:Int)=ag t/\True else True/\false=ag t/\True else if decide (t.kind=(10:Int))=true then if ay t.name=true then True/\aS t (0:Int) (0:Int) (0:Int) (1:Int)=ag t/\True else True/\false=ag t/\True else if decide (t.kind=(11:Int))=true then if decide (t.name=[])=true then True/\aS t (0:Int) (0:Int) (1:Int) (↑(List.length t.parts):Int)=ag t/\True else True/\false=ag t/\True else if decide (t.kind=(12:Int))=true then if decide (t.name=[])=true then True/\aS t (0:Int) (0:Int) (1:Int) (3:Int)=ag t/\True else True/\false=ag t/\True else if decide (t.kind=(13:Int))=true then if decide (t.name=[])=true then inR IntKind.i64 ((↑(List.length t.names):Int)+(1:Int))/\inR IntKind.i64 ((↑(List.length t.names):Int)+(1:Int))/\True
  /\aS t (↑(List.length t.names):Int) (↑(List.length t.names):Int) ((↑(List.length t.names):Int)+(1:Int)) ((↑(List.length t.names):Int)+(1:Int))=ag t/\True else True/\false=ag t/\True else if decide (t.kind=(14:Int))=true then if ay t.name=true then True/\aS t (0:Int) (0:Int) (0:Int) (2:Int)=ag t/\True else True/\false=ag t/\True else if decide (t.kind=(15:Int))=true then if decide (t.name=[])=true then True/\aS t (0:Int) (0:Int) (1:Int) (1:Int)=ag t/\True else True/\false=ag t/\True else if decide (t.kind=(16:Int))=true then if aQ t.name=true then True/\aS t (0:Int) (0:Int) (0:Int) (1:Int)=ag t/\True else True/\false=ag t/\True else if decide (t.kind=(17:Int))=true then if aQ t.name=true then True/\aS t (0:Int) (0:Int) (0:Int) (1:Int)=ag t/\True else True/\false=ag t/\True else True/\false=ag t/\True else if (!decide (t.kind=(5:Int)))=true then if (!decide (t.pkg=[]))=true then True/\false=ag t/\True else if decide (t.kind=(1:Int))=true then if decide (t.name=[])=true then if decide ((0:Int)<=t.n)=true then if decide (t.n<=(999999999999999:Int))=true then True/\aS t (0:Int) (0:Int) (0:Int) (0:Int)=ag t/\True else True/\false=ag t/\True else True/\false=ag t/\True else True/\false=ag t/\True else if decide (t.kind=(2:Int))=true then List.length t.name<=(2000000:Nat)/\if fL t.name=true then True/\aS t (0:Int) (0:Int) (0:Int) (0:Int)=ag t/\True else True/\false=ag t/\True else if decide (t.kind=(3:Int))=true then if decide (t.name=[])=true then True/\aS t (0:Int) (0:Int) (0:Int) (0:Int)=ag t/\True else True/\false=ag t/\True else if decide (t.kind=(4:Int))=true then if decide (t.name=[])=true then True/\aS t (0:Int) (0:Int) (0:Int) (0:Int)=ag t/\True else True/\false=ag t/\True else if decide (t.kind=(5:Int))=true then if ay t.name=true then if decide (t.pkg=[])=true then True/\aS t (0:Int) (0:Int) (0:Int) (0:Int)=ag t/\True else if ay t.pkg=true then True/\aS t (0:Int) (0:Int) (0:Int) (0:Int)=ag t/\True else True/\false=ag t/\True else True/\false=ag t/\True else if decide (t.kind=(6:Int))=true then if decide (t.name=[])=true then if decide ((↑(List.length t.names):Int)<=(4096:Int))=true then True/\aS t (↑(List.length t.names):Int) (0:Int) (↑(List.length t.names):Int) (1:Int)=ag t/\True else True/\false=ag t/\True else True/\false=ag t/\True else if decide (t.kind=(7:Int))=true then if decide (t.name=[])=true then if decide ((1:Int)<=(↑(List.length t.parts):Int))=true then True/\aS t (0:Int) (0:Int) (0:Int) (↑(List.length t.parts):Int)=ag t/\True else True/\false=ag t/\True else True/\false=ag t/\True else if decide (t.kind=(8:Int))=true then if decide (t.name=[])=true then True/\aS t (↑(List.length t.names):Int) (0:Int) (0:Int) (↑(List.length t.names):Int)=ag t/\True else True/\false=ag t/\True else if decide (t.kind=(9:Int))=true then if ay t.name=true then True/\aS t (0:Int) (0:Int) (0:Int) (1:Int)=ag t/\True else True/\false=ag t/\True else if decide (t.kind=(10:Int))=true then if ay t.name=true then True/\aS t (0:Int) (0:Int) (0:Int) (1:Int)=ag t/\True else True/\false=ag t/\True else if decide (t.kind=(11:Int))=true then if decide (t.name=[])=true then True/\aS t (0:Int) (0:Int) (1:Int) (↑(List.length t.parts):Int)=ag t/\True else True/\false=ag t/\True else if decide (t.kind=(12:Int))=true then if decide (t.name=[])=true then True
  /\aS t (0:Int) (0:Int) (1:Int) (3:Int)=ag t/\True else True/\false=ag t/\True else if decide (t.kind=(13:Int))=true then if decide (t.name=[])=true then inR IntKind.i64 ((↑(List.length t.names):Int)+(1:Int))/\inR IntKind.i64 ((↑(List.length t.names):Int)+(1:Int))/\True/\aS t (↑(List.length t.names):Int) (↑(List.length t.names):Int) ((↑(List.length t.names):Int)+(1:Int)) ((↑(List.length t.names):Int)+(1:Int))=ag t/\True else True/\false=ag t/\True else if decide (t.kind=(14:Int))=true then if ay t.name=true then True/\aS t (0:Int) (0:Int) (0:Int) (2:Int)=ag t/\True else True/\false=ag t/\True else if decide (t.kind=(15:Int))=true then if decide (t.name=[])=true then True/\aS t (0:Int) (0:Int) (1:Int) (1:Int)=ag t/\True else True/\false=ag t/\True else if decide (t.kind=(16:Int))=true then if aQ t.name=true then True/\aS t (0:Int) (0:Int) (0:Int) (1:Int)=ag t/\True else True/\false=ag t/\True else if decide (t.kind=(17:Int))=true then if aQ t.name=true then True/\aS t (0:Int) (0:Int) (0:Int) (1:Int)=ag t/\True else True/\false=ag t/\True else True/\false=ag t/\True else if decide (t.kind=(1:Int))=true then if decide (t.name=[])=true then if decide ((0:Int)<=t.n)=true then if decide (t.n<=(999999999999999:Int))=true then True/\aS t (0:Int) (0:Int) (0:Int) (0:Int)=ag t/\True else True/\false=ag t/\True else True/\false=ag t/\True else True/\false=ag t/\True else if decide (t.kind=(2:Int))=true then List.length t.name<=(2000000:Nat)/\if fL t.name=true then True/\aS t (0:Int) (0:Int) (0:Int) (0:Int)=ag t/\True else True/\false=ag t/\True else if decide (t.kind=(3:Int))=true then if decide (t.name=[])=true then True/\aS t (0:Int) (0:Int) (0:Int) (0:Int)=ag t/\True else True/\false=ag t/\True else if decide (t.kind=(4:Int))=true then if decide (t.name=[])=true then True/\aS t (0:Int) (0:Int) (0:Int) (0:Int)=ag t/\True else True/\false=ag t/\True else if decide (t.kind=(5:Int))=true then if ay t.name=true then if decide (t.pkg=[])=true then True/\aS t (0:Int) (0:Int) (0:Int) (0:Int)=ag t/\True else if ay t.pkg=true then True/\aS t (0:Int) (0:Int) (0:Int) (0:Int)=ag t/\True else True/\false=ag t/\True else True/\false=ag t/\True else if decide (t.kind=(6:Int))=true then if decide (t.name=[])=true then if decide ((↑(List.length t.names):Int)<=(4096:Int))=true then True/\aS t (↑(List.length t.names):Int) (0:Int) (↑(List.length t.names):Int) (1:Int)=ag t/\True else True/\false=ag t/\True else True/\false=ag t/\True else if decide (t.kind=(7:Int))=true then if decide (t.name=[])=true then if decide ((1:Int)<=(↑(List.length t.parts):Int))=true then True/\aS t (0:Int) (0:Int) (0:Int) (↑(List.length t.parts):Int)=ag t/\True else True/\false=ag t/\True else True/\false=ag t/\True else if decide (t.kind=(8:Int))=true then if decide (t.name=[])=true then True/\aS t (↑(List.length t.names):Int) (0:Int) (0:Int) (↑(List.length t.names):Int)=ag t/\True else True/\false=ag t/\True else if decide (t.kind=(9:Int))=true then if ay t.name=true then True/\aS t (0:Int) (0:Int) (0:Int) (1:Int)=ag t/\True else True/\false=ag t/\True else if decide (t.kind=(10:Int))=true then if ay t.name=true then True/\aS t (0:Int) (0:Int) (0:Int) (1:Int)=ag t/\True else True/\false=ag t/\True else if decide (t.kind=(11:Int))=true then if decide (t.name=[])=true then True
  /\aS t (0:Int) (0:Int) (1:Int) (↑(List.length t.parts):Int)=ag t/\True else True/\false=ag t/\True else if decide (t.kind=(12:Int))=true then if decide (t.name=[])=true then True/\aS t (0:Int) (0:Int) (1:Int) (3:Int)=ag t/\True else True/\false=ag t/\True else if decide (t.kind=(13:Int))=true then if decide (t.name=[])=true then inR IntKind.i64 ((↑(List.length t.names):Int)+(1:Int))/\inR IntKind.i64 ((↑(List.length t.names):Int)+(1:Int))/\True/\aS t (↑(List.length t.names):Int) (↑(List.length t.names):Int) ((↑(List.length t.names):Int)+(1:Int)) ((↑(List.length t.names):Int)+(1:Int))=ag t/\True else True/\false=ag t/\True else if decide (t.kind=(14:Int))=true then if ay t.name=true then True/\aS t (0:Int) (0:Int) (0:Int) (2:Int)=ag t/\True else True/\false=ag t/\True else if decide (t.kind=(15:Int))=true then if decide (t.name=[])=true then True/\aS t (0:Int) (0:Int) (1:Int) (1:Int)=ag t/\True else True/\false=ag t/\True else if decide (t.kind=(16:Int))=true then if aQ t.name=true then True/\aS t (0:Int) (0:Int) (0:Int) (1:Int)=ag t/\True else True/\false=ag t/\True else if decide (t.kind=(17:Int))=true then if aQ t.name=true then True/\aS t (0:Int) (0:Int) (0:Int) (1:Int)=ag t/\True else True/\false=ag t/\True else True/\false=ag t/\True:=by
 have dnQ:∀n:Nat,decide ((1:Int)<=(n:Int))=decide (0 < n):=fun n=>decide_eq_decide.2 (by omega)
 have b1:gT t=false→ag t=false:=fun e=>by unfold ag;rw [e,Bool.and_false]
 have b2:dK t=false→ag t=false:=fun e=>by unfold ag;rw [e,Bool.false_and]
 simp only [eq_self,true_and,and_true]
 refine ab (fun h=>?_) (fun h1=>?_)
 ·symm;apply b2;unfold dK;have:=Xo h;rw [Xf (by omega)];rfl
 replace h1:¬t.pos < 0:=fun e=>h1 (Xd e)
 refine ab (fun h=>?_) (fun h2=>?_)
 ·exact (xc (by simpa using h)).symm
 have h2:dN t.names true=true:=by simpa using h2
 refine ab (fun h=>?_) (fun h3=>?_)
 ·exact (Ag (by simpa using h)).symm
 have h3:dN t.vars false=true:=by simpa using h3
 have h3:t.vars.all ay=true:=by unfold dN at h3;rw [Bool.and_eq_true] at h3;exact h3.1
 have h2:jL t.names=true:=by unfold dN at h2;unfold jL;simpa using h2
 refine ab (fun h=>?_) (fun h4=>?_)
 ·have h:t.shapes.all bf=false:=by simpa using h
  symm;apply b2;unfold dK;rw [h,Bool.and_false]
 have h4:t.shapes.all bf=true:=by simpa using h4
 have hd:dK t=((decide (t.n=0) || decide (t.kind=1)) && (decide (t.pkg=[]) || decide (t.kind=5))):=by
  unfold dK;rw [Xd (by omega),h4,Bool.true_and,Bool.and_true]
 have hb:dK t=true→ag t=gT t:=fun e=>by unfold ag;rw [e,Bool.true_and]
 clear h1 h4
 have eb:((decide (t.n=0) || decide (t.kind=1)) && (decide (t.pkg=[]) || decide (t.kind=5)))=true→ag t=gT t:=fun e=>hb (hd.trans e)
 have e5:((decide (t.n=0) || decide (t.kind=1)) && (decide (t.pkg=[]) || decide (t.kind=5)))=false→ag t=false:=fun e=>b2 (hd.trans e)
 clear hd hb b1 b2
 refine ab (fun k1=>?_) (fun k1=>?_)
 ·have k1:¬t.kind=1:=by simpa using k1
  refine ab (fun k2=>?_) (fun k2=>?_)
  ·have k2:¬t.n=0:=by simpa using k2
   symm;apply e5;rw [Xf k1,Xf k2];rfl
  have k2:t.n=0:=by simpa using k2
  refine ab (fun k3=>?_) (fun k3=>?_)
  ·have k3:¬t.kind=5:=by simpa using k3
   refine ab (fun k4=>?_) (fun k4=>?_)
   ·have k4:¬t.pkg=[]:=by simpa using k4
    symm;apply e5;rw [Xf k3,Xf k4,Bool.or_false,Bool.and_false]
   ·have k4:t.pkg=[]:=by simpa using k4
    rw [eb (by rw [Xd k2,Xd k4];rfl)]
    clear eb e5
    unfold gT aS dE
    rw [h2,h3]
    simp only [dnZ,dn1,dn2,dn3,dnN,dnS,dnL,dnP,dnQ]
    clear h2 h3
    repeat' (first | refine ab (fun _=>?_) (fun _=>?_) | refine ⟨bA (by omega) (by have:=ho.2;omega),?_⟩ | refine And.intro ho.1 ?_ | fail)
    all_goals (first | (simp_all;done) | (simp_all;intros;omega))
  ·have k3:t.kind=5:=by simpa using k3
   rw [eb (by rw [Xd k2,Xd k3,Bool.or_true];rfl)]
   clear eb e5
   unfold gT aS dE
   rw [h2,h3]
   simp only [dnZ,dn1,dn2,dn3,dnN,dnS,dnL,dnP,dnQ]
   clear h2 h3
   repeat' (first | refine ab (fun _=>?_) (fun _=>?_) | refine ⟨bA (by omega) (by have:=ho.2;omega),?_⟩ | refine And.intro ho.1 ?_ | fail)
   all_goals (first | (simp_all;done) | (simp_all;intros;omega))
 ·have k1:t.kind=1:=by simpa using k1
  refine ab (fun k3=>?_) (fun k3=>?_)
  ·have k3:¬t.kind=5:=by simpa using k3
   refine ab (fun k4=>?_) (fun k4=>?_)
   ·have k4:¬t.pkg=[]:=by simpa using k4
    symm;apply e5;rw [Xf k3,Xf k4,Bool.or_false,Bool.and_false]
   ·have k4:t.pkg=[]:=by simpa using k4
    rw [eb (by rw [Xd k1,Xd k4,Bool.or_true];rfl)]
    clear eb e5
    unfold gT aS dE
    rw [h2,h3]
    simp only [dnZ,dn1,dn2,dn3,dnN,dnS,dnL,dnP,dnQ]
    clear h2 h3
    repeat' (first | refine ab (fun _=>?_) (fun _=>?_) | refine ⟨bA (by omega) (by have:=ho.2;omega),?_⟩ | refine And.intro ho.1 ?_ | fail)
    all_goals (first | (simp_all;done) | (simp_all;intros;omega))
  ·have k3:t.kind=5:=by simpa using k3
   rw [k1] at k3
   exact absurd k3 (by decide)
theorem Bd (n:Nat) (t:Trm) (ht:Wf (.st .term) t) (hn:szT t<=n+1) (ho:dw t=true) :
  (List.length t.name<=(2000000:Nat)/\List.length t.names<=(2000000:Nat))/\if (!ag t)=true then True/\false=allT ag t/\True else (∃(x:Nat),(x<=List.length t.parts/\allT ag t=allTL ag (List.drop x t.parts))/\(0:Int)=(↑x:Int)/\t=t/\false=false/\t=t/\True)/\∀(x:Nat),x<=List.length t.parts/\allT ag t=allTL ag (List.drop x t.parts)→if decide ((↑x:Int) < (↑(List.length t.parts):Int))=true then ((0:Int)<=(↑x:Int)/\(↑x:Int) < (↑(List.length t.parts):Int))/\(szT (List.getD t.parts (Int.toNat (↑x:Int)) (dfl (Ty.st SN.term)))<=n/\dw (List.getD t.parts (Int.toNat (↑x:Int)) (dfl (Ty.st SN.term)))=true)/\if (!allT ag (List.getD t.parts (Int.toNat (↑x:Int)) (dfl (Ty.st SN.term))))=true then True/\false=allT ag t/\True else inR IntKind.i64 ((↑x:Int)+(1:Int))/\∃(y:Nat),(y<=List.length t.parts/\allT ag t=allTL ag (List.drop y t.parts))/\List.length t.parts - y < List.length t.parts - x/\(↑x:Int)+(1:Int)=(↑y:Int)/\t=t/\false=false/\t=t/\True else True/\true=allT ag t/\True:=by
 have ln:=ht.term_parts.len
 have hz:=ek t
 simp only [Int.toNat_natCast,eq_self,true_and,and_true]
 refine ⟨xf ho,?_⟩
 refine ab (fun h=>?_) (fun h=>?_)
 ·have h:ag t=false:=by simpa using h
  rw [allT_eq,h];rfl
 have h:ag t=true:=by simpa using h
 refine ⟨⟨0,⟨Nat.zero_le _,by rw [allT_eq,h];rfl⟩,rfl⟩,?_⟩
 rintro k ⟨h1,h3⟩
 refine ab (fun h=>?_) (fun h=>?_)
 ·replace h:=Xo h
  have hk:k < t.parts.length:=by omega
  have hm:=eX (getD_mem t.parts k (dfl (.st .term)) hk)
  rw [aE t.parts k (dfl (.st .term)) hk] at h3
  simp only [allTL] at h3
  refine ⟨by omega,⟨by omega,xe ho (getD_mem t.parts k (dfl (.st .term)) hk)⟩,?_⟩
  cases e:allT ag (t.parts.getD k (dfl (.st .term)))
  ·rw [e] at h3;rw [h3];simp
  ·simp only [e,Bool.true_and] at h3
   exact ⟨aK hk ln,k+1,⟨by omega,h3⟩,by omega,by omega⟩
 ·replace h:¬((k:Int) < (t.parts.length:Int)):=fun e=>h (Xd e)
  have e:k=t.parts.length:=by omega
  subst e
  rw [h3,List.drop_length];rfl
theorem Dk (n:Nat) (s:Trm) (hs:Wf (.st .term) s) (hn:szT s<=n+1) (hb:n<=1000000) :
  (∃(x:Nat × Int),(x.1<=List.length s.parts/\(0:Int)<=x.2/\max x.2 (↑(maxDT (List.drop x.1 s.parts)):Int)=(↑(maxDT s.parts):Int))/\(0:Int)=x.2/\(0:Int)=(↑x.1:Int)/\s=s/\(0:Int)=(0:Int)/\s=s/\True)/\∀(x:Nat × Int),x.1<=List.length s.parts/\(0:Int)<=x.2/\max x.2 (↑(maxDT (List.drop x.1 s.parts)):Int)=(↑(maxDT s.parts):Int)→if decide ((↑x.1:Int) < (↑(List.length s.parts):Int))=true then ((0:Int)<=(↑x.1:Int)/\(↑x.1:Int) < (↑(List.length s.parts):Int))/\szT (List.getD s.parts (Int.toNat (↑x.1:Int)) (dfl (Ty.st SN.term)))<=n/\if decide (x.2 < (↑(deepT (List.getD s.parts (Int.toNat (↑x.1:Int)) (dfl (Ty.st SN.term)))):Int))=true then inR IntKind.i64 ((↑x.1:Int)+(1:Int))/\∃(y:Nat × Int),(y.1<=List.length s.parts/\(0:Int)<=y.2/\max y.2 (↑(maxDT (List.drop y.1 s.parts)):Int)=(↑(maxDT s.parts):Int))/\List.length s.parts - y.1 < List.length s.parts - x.1/\(↑(deepT (List.getD s.parts (Int.toNat (↑x.1:Int)) (dfl (Ty.st SN.term)))):Int)=y.2/\(↑x.1:Int)+(1:Int)=(↑y.1:Int)/\s=s/\(0:Int)=(0:Int)/\s=s/\True else inR IntKind.i64 ((↑x.1:Int)+(1:Int))/\∃(y:Nat × Int),(y.1<=List.length s.parts/\(0:Int)<=y.2/\max y.2 (↑(maxDT (List.drop y.1 s.parts)):Int)=(↑(maxDT s.parts):Int))/\List.length s.parts - y.1 < List.length s.parts - x.1/\x.2=y.2/\(↑x.1:Int)+(1:Int)=(↑y.1:Int)/\s=s/\(0:Int)=(0:Int)/\s=s/\True else inR IntKind.i64 (x.2+(1:Int))/\True/\x.2+(1:Int)=(↑(deepT s):Int)/\True:=by
 have ln:=hs.term_parts.len
 have hz:=ek s
 have hd:deepT s=maxDT s.parts+1:=by cases s;rw [deepT]
 have hds:=maxDT_sz s.parts
 simp only [Int.toNat_natCast,eq_self,true_and,and_true]
 refine ⟨⟨(0,0),⟨Nat.zero_le _,by simp,by simp only [List.drop_zero];omega⟩,rfl,rfl⟩,?_⟩
 rintro ⟨k,c⟩ ⟨h1,h2,h3⟩
 simp only at h1 h2 h3 ⊢
 refine ab (fun h=>?_) (fun h=>?_)
 ·replace h:=Xo h
  have hk:k < s.parts.length:=by omega
  have hm:=eX (getD_mem s.parts k (dfl (.st .term)) hk)
  rw [aE s.parts k (dfl (.st .term)) hk] at h3
  simp only [maxDT] at h3
  refine ⟨by omega,by omega,ab (fun a=>?_) (fun a=>?_)⟩
  ·replace a:=Xo a
   exact ⟨aK hk ln,(k+1,(deepT (s.parts.getD k (dfl (.st .term))):Int)),⟨by omega,by simp only;omega,by simp only;omega⟩,by simp only;omega,rfl,rfl⟩
  ·replace a:¬c < (deepT (s.parts.getD k (dfl (.st .term))):Int):=fun e=>a (Xd e)
   exact ⟨aK hk ln,(k+1,c),⟨by omega,by simp only;omega,by simp only;omega⟩,by simp only;omega,rfl,rfl⟩
 ·replace h:¬((k:Int) < (s.parts.length:Int)):=fun e=>h (Xd e)
  have e:k=s.parts.length:=by omega
  subst e
  rw [List.drop_length] at h3
  simp only [maxDT] at h3
  exact ⟨bA (by omega) (by omega),by omega⟩
theorem Be (s:Trm) (hs:Wf (.st .term) s) (ho:dw s=true) :
  (szT s<=szT s/\(0:Int)<=(4096:Int)/\(4096:Int)<=(1000000:Int))/\if decide ((4096:Int) < cW s (4096:Int))=true then True/\(3:Int)=ba s/\True else szT s<=(4096:Nat)/\if decide ((40:Int) < (↑(deepT s):Int))=true then True/\(91:Int)=ba s/\True else (szT s<=(4096:Nat)/\dw s=true)/\if (!allT ag s)=true then True/\(80:Int)=ba s/\True else True/\(0:Int)=ba s/\True:=by
 simp only [eq_self,true_and,and_true]
 rw [wW]
 refine ⟨⟨Nat.le_refl _,by omega,by omega⟩,ab (fun h=>?_) (fun h=>?_)⟩
 ·rw [if_pos (Xo h)]
 ·have h':¬(4096:Int) < cW s 4096:=fun e=>h (Xd e)
  have hs4:szT s<=4096:=by rw [sizeT_eq s 4096 (by omega)] at h';omega
  rw [if_neg h']
  refine ⟨hs4,ab (fun g=>?_) (fun g=>⟨⟨hs4,ho⟩,?_⟩)⟩
  ·rw [if_pos (Xo g)]
  ·rw [if_neg (fun e=>g (Xd e))]
   cases allT ag s <;> simp
theorem Bf (n:Nat) (l:List Shape) (hl:Wf (.lst (.st .shape)) l) (ho:szL l < n+1/\szL l<=1000000000/\allL nk l=true) :
  (∃(x:Nat),x<=List.length l/\List.take x l=[]/\(0:Int)=(↑x:Int)/\l=l/\l=l/\(↑(List.length l):Int)=(↑(List.length l):Int)/\List.length (List.take x l)=(0:Nat)/\True)/\∀(x:Nat),x<=List.length l→if decide ((↑x:Int) < (↑(List.length l):Int))=true then ((0:Int)<=(↑x:Int)/\(↑x:Int) < (↑(List.length l):Int))/\List.length (List.getD l (Int.toNat (↑x:Int)) (dfl (Ty.st SN.shape))).names *(16:Nat)<=(140737488355328:Nat)/\(szL (List.getD l (Int.toNat (↑x:Int)) (dfl (Ty.st SN.shape))).parts < n/\szL (List.getD l (Int.toNat (↑x:Int)) (dfl (Ty.st SN.shape))).parts<=(1000000000:Nat)/\allL nk (List.getD l (Int.toNat (↑x:Int)) (dfl (Ty.st SN.shape))).parts=true)/\(List.length (List.take x l)=List.length (List.take x l)/\(List.length (List.take x l)+List.length [AL.Shape.mk ((List.getD l (Int.toNat (↑x:Int)) (dfl (Ty.st SN.shape))).kind) ((List.getD l (Int.toNat (↑x:Int)) (dfl (Ty.st SN.shape))).pkg) ((List.getD l (Int.toNat (↑x:Int)) (dfl (Ty.st SN.shape))).name) ((List.getD l (Int.toNat (↑x:Int)) (dfl (Ty.st SN.shape))).names) ((List.getD l (Int.toNat (↑x:Int)) (dfl (Ty.st SN.shape))).parts)]) *(88:Nat)<=(140737488355328:Nat))/\inR IntKind.i64 ((↑x:Int)+(1:Int))/\∃(y:Nat),y<=List.length l/\List.length l - y < List.length l - x/\List.take x l++[AL.Shape.mk ((List.getD l (Int.toNat (↑x:Int)) (dfl (Ty.st SN.shape))).kind) ((List.getD l (Int.toNat (↑x:Int)) (dfl (Ty.st SN.shape))).pkg) ((List.getD l (Int.toNat (↑x:Int)) (dfl (Ty.st SN.shape))).name) ((List.getD l (Int.toNat (↑x:Int)) (dfl (Ty.st SN.shape))).names) ((List.getD l (Int.toNat (↑x:Int)) (dfl (Ty.st SN.shape))).parts)]=List.take y l/\(↑x:Int)+(1:Int)=(↑y:Int)/\l=l/\l=l/\(↑(List.length l):Int)=(↑(List.length l):Int)/\List.length (List.take x l++[AL.Shape.mk ((List.getD l (Int.toNat (↑x:Int)) (dfl (Ty.st SN.shape))).kind) ((List.getD l (Int.toNat (↑x:Int)) (dfl (Ty.st SN.shape))).pkg) ((List.getD l (Int.toNat (↑x:Int)) (dfl (Ty.st SN.shape))).name) ((List.getD l (Int.toNat (↑x:Int)) (dfl (Ty.st SN.shape))).names) ((List.getD l (Int.toNat (↑x:Int)) (dfl (Ty.st SN.shape))).parts)])=List.length (List.take y l)/\True else True/\List.take x l=l/\True:=by
 have ln:=hl.len
 obtain ⟨o1,o2,o3⟩:=ho
 have et:∀s:Shape,AL.Shape.mk s.kind s.pkg s.name s.names s.parts=s:=fun s=>by cases s;rfl
 simp only [Int.toNat_natCast,eq_self,true_and,and_true,et]
 refine ⟨⟨0,Nat.zero_le _,rfl,rfl,rfl⟩,?_⟩
 intro k h1
 refine ab (fun h=>?_) (fun h=>?_)
 ·replace h:=Xo h
  have hk:k < l.length:=by omega
  have hm:=getD_mem l k (dfl (.st .shape)) hk
  have hz:=dr hm
  have he:=fK (l.getD k (dfl (.st .shape)))
  have hll:=iX l
  rw [jF,List.all_eq_true] at o3
  have hs:=o3 _ hm
  rw [fD,Bool.and_eq_true] at hs
  have hn:(l.getD k (dfl (.st .shape))).names.length<=1000000:=Xo hs.1
  have ht:=eD l k (dfl (.st .shape)) hk
  refine ⟨by omega,by omega,⟨by omega,by omega,hs.2⟩,?_,aK hk ln,k+1,by omega,by omega,ht.symm,by omega,by rw [ht]⟩
  rw [List.length_take,List.length_singleton]
  omega
 ·have e:k=l.length:=by
   have:¬((k:Int) < (l.length:Int)):=fun e=>h (Xd e)
   omega
  rw [e,List.take_length]
theorem Ex (n:Nat) (t:Trm) (ht:Wf (.st .term) t) (ho:szT t<=n+1/\gX t=true) :
  List.length t.names *(16:Nat)<=(140737488355328:Nat)/\List.length t.vars *(16:Nat)<=(140737488355328:Nat)/\(szL t.shapes < szL t.shapes+(1:Nat)/\szL t.shapes<=(1000000000:Nat)/\allL nk t.shapes=true)/\(∃(x:Nat),x<=List.length t.parts/\List.map bareT (List.take x t.parts)=[]/\(0:Int)=(↑x:Int)/\t=t/\t.parts=t.parts/\(↑(List.length t.parts):Int)=(↑(List.length t.parts):Int)/\List.length (List.map bareT (List.take x t.parts))=(0:Nat)/\t.kind=t.kind/\t.pkg=t.pkg/\t.name=t.name/\t.n=t.n/\t.names=t.names/\t.vars=t.vars/\t.shapes=t.shapes/\t.parts=t.parts/\(0:Int)=(0:Int)/\(0:Int)=(0:Int)/\aF UInt8=aF UInt8/\aF UInt8=aF UInt8/\(0:Int)=(0:Int)/\(0:Int)=(0:Int)/\True)/\∀(x:Nat),x<=List.length t.parts→if decide ((↑x:Int) < (↑(List.length t.parts):Int))=true then ((0:Int)<=(↑x:Int)/\(↑x:Int) < (↑(List.length t.parts):Int))/\(szT (List.getD t.parts (Int.toNat (↑x:Int)) (dfl (Ty.st SN.term)))<=n/\gX (List.getD t.parts (Int.toNat (↑x:Int)) (dfl (Ty.st SN.term)))=true)/\(List.length (List.map bareT (List.take x t.parts))=List.length (List.map bareT (List.take x t.parts))/\(List.length (List.map bareT (List.take x t.parts))+List.length [bareT (List.getD t.parts (Int.toNat (↑x:Int)) (dfl (Ty.st SN.term)))]) *(152:Nat)<=(140737488355328:Nat))/\inR IntKind.i64 ((↑x:Int)+(1:Int))/\∃(y:Nat),y<=List.length t.parts/\List.length t.parts - y < List.length t.parts - x/\List.map bareT (List.take x t.parts)++[bareT (List.getD t.parts (Int.toNat (↑x:Int)) (dfl (Ty.st SN.term)))]=List.map bareT (List.take y t.parts)/\(↑x:Int)+(1:Int)=(↑y:Int)/\t=t/\t.parts=t.parts/\(↑(List.length t.parts):Int)=(↑(List.length t.parts):Int)/\List.length (List.map bareT (List.take x t.parts)++[bareT (List.getD t.parts (Int.toNat (↑x:Int)) (dfl (Ty.st SN.term)))])=List.length (List.map bareT (List.take y t.parts))/\t.kind=t.kind/\t.pkg=t.pkg/\t.name=t.name/\t.n=t.n/\t.names=t.names/\t.vars=t.vars/\t.shapes=t.shapes/\t.parts=t.parts/\(0:Int)=(0:Int)/\(0:Int)=(0:Int)/\aF UInt8=aF UInt8/\aF UInt8=aF UInt8/\(0:Int)=(0:Int)/\(0:Int)=(0:Int)/\True else True/\t.kind=(bareT t).kind/\t.pkg=(bareT t).pkg/\t.name=(bareT t).name/\t.n=(bareT t).n/\t.names=(bareT t).names/\t.vars=(bareT t).vars/\t.shapes=(bareT t).shapes/\List.map bareT (List.take x t.parts)=(bareT t).parts/\(0:Int)=(bareT t).pos/\True:=by
 have ln:=ht.term_parts.len
 obtain ⟨o1,o2⟩:=ho
 have hz:=ek t
 have hsm:=o2
 unfold gX at hsm
 rw [allT_eq,Bool.and_eq_true,allTL_all,List.all_eq_true] at hsm
 obtain ⟨s1,s2,s3,s4,s5⟩:=kQ.1 hsm.1
 simp only [Int.toNat_natCast,eq_self,true_and,and_true]
 refine ⟨by omega,by omega,⟨by omega,s4,s5⟩,⟨0,Nat.zero_le _,rfl,rfl,rfl⟩,?_⟩
 intro k h1
 refine ab (fun h=>?_) (fun h=>?_)
 ·replace h:=Xo h
  have hk:k < t.parts.length:=by omega
  have hmm:=getD_mem t.parts k (dfl (.st .term)) hk
  have hm:=eX hmm
  have htk:=eD t.parts k (dfl (.st .term)) hk
  have hx:(t.parts.take k).map bareT++[bareT (t.parts.getD k (dfl (.st .term)))]=(t.parts.take (k+1)).map bareT:=by rw [htk,List.map_append];rfl
  refine ⟨by omega,⟨by omega,hsm.2 _ hmm⟩,?_,aK hk ln,k+1,by omega,by omega,hx,by omega,by rw [hx]⟩
  rw [List.length_map,List.length_take,List.length_singleton]
  omega
 ·have e:k=t.parts.length:=by
   have:¬((k:Int) < (t.parts.length:Int)):=fun e=>h (Xd e)
   omega
  rw [e,List.take_length,ke,fw]
  repeat' (first | exact trivial | rfl | apply And.intro)
theorem Dl (t:Trm) (ht:Wf (.st .term) t) (ho:bL t=true) :
  bL t=true/\if (!decide (ba t=(0:Int)))=true then True/\(t=if ba t=(0:Int) then bareT t else t)/\True else (szT t<=szT t/\gX t=true)/\True/\(bareT t=if ba t=(0:Int) then bareT t else t)/\True:=by
 exact ⟨ho,ab (fun h=>⟨trivial,by rw [if_neg (ndF h)],trivial⟩) (fun h=>⟨⟨Nat.le_refl _,(mZ (ndT h)).1⟩,trivial,by rw [if_pos (ndT h)],trivial⟩)⟩
theorem mm (G:Trm→Envt→Shape × Flt) (N:Nat) (t:Trm) (e:Envt) (ht:Wf (.st .term) t) (he:Wf (.st .env) e) (hf:bL t=true) (hs:dw t=true) (hN:sz (G t e).1<=N) (hp:ba t=0→G (bareT t) e=((G t e).1,⟨(G t e).2.err,0⟩)/\bL (bareT t)=true) (hc:¬ba t=0→G t e=(aq,⟨ba t,0⟩)) :
  if (!j6 e)=true then True/\true=true/\True else if (!decide (cW t (300:Int)<=(300:Int)))=true then True/\true=true/\True else (bL t=true/\List.length e.values<=(1000000:Nat))/\bL t=true/\(bL (if ba t=(0:Int) then bareT t else t)=true/\List.length e.values<=(1000000:Nat))/\bL t=true/\if (!decide (ba t=(0:Int)))=true then bL t=true/\if decide ((G t e).2.err=ba t)=true then if decide ((G t e).2.pos=(0:Int))=true then True/\true=true/\True else True/\false=true/\True else True/\false=true/\True else sz (G t e).1<=N/\if eqS (G t e).1 (G (if ba t=(0:Int) then bareT t else t) e).1=true then if decide ((G t e).2.err=(G (if ba t=(0:Int) then bareT t else t) e).2.err)=true then if decide ((G (if ba t=(0:Int) then bareT t else t) e).2.pos=(0:Int))=true then dw t=true/\if decide (ba t=(0:Int))=true then True/\true=true/\True else True/\false=true/\True else True/\false=true/\True else True/\false=true/\True else True/\false=true/\True:=by
 refine ab (fun _=>⟨trivial,rfl,trivial⟩) (fun h1=>ab (fun _=>⟨trivial,rfl,trivial⟩) (fun h2=>?_))
 have l1:=xg h1
 by_cases c:ba t=0
 ·obtain ⟨p1,p2⟩:=hp c
  rw [if_pos c,p1]
  refine ⟨⟨hf,by omega⟩,hf,⟨p2,by omega⟩,hf,ab (fun h=>absurd c (ndF h)) (fun _=>⟨hN,ab (fun _=>ab (fun _=>ab (fun _=>⟨hs,ab (fun _=>⟨trivial,rfl,trivial⟩) (fun q=>absurd (Xd c) q)⟩) (fun q=>absurd (Xd rfl) q)) (fun q=>absurd (Xd rfl) q)) (fun q=>absurd (eqS_refl _) q)⟩)⟩
 ·rw [if_neg c,hc c]
  exact ⟨⟨hf,by omega⟩,hf,⟨hf,by omega⟩,hf,ab (fun _=>⟨hf,ab (fun _=>ab (fun _=>⟨trivial,rfl,trivial⟩) (fun q=>absurd (Xd rfl) q)) (fun q=>absurd (Xd rfl) q)⟩) (fun h=>absurd (ndT h) c)⟩
end Go.AL.Seat
end
section
open Go Go.AL Go.Proofs Go.Shelf Go.Pd
namespace Go.AL.Seat
open Go.Proofs.Tryz
variable [Tabs]
variable [SeatLaid]
theorem pM:ak prog 151 (p1 (.int .u8) fun c=>.ret (.bool (bQ c))):=
 b9 (ee func151) fun c _ _=>g0 sn a0 func151 (B5 c)
theorem pN:ak prog 152 (p1 (.int .u8) fun c=>.ret (.bool (bV c))):=
 b9 (ee func152) fun c _ _=>g0 sn a0 func152 (B6 c)
theorem xT:ak prog 155 (p1 (.int .u8) fun c=>.ret (.bool (eU c))):=
 b9 (ee func155) fun c _ _=>g0 sn a0 func155 (B7 c)
theorem r6:ak prog 153 (p1 .str fun s=>.ret (.int .i64 (cH s:Int))):=
 b9 (ee func153) fun s hs _=>g0 (sc pM (sc pN (sc xT sn))) ⟨[(2,fun S0=>⟨Nat,fun k=>k<=s.length/\cH s=k+cH (s.drop k),fun k=>[(3,.int .i64 k)],fun _=>[],fun k=>s.length - k⟩)],[],[]⟩ func153 (D9 s hs)
theorem Bg:ak prog 214 (p2 .str (.lst .str) fun s l=>.ret (.bool (decide (s∈l)))):=
 cG (ee func214) fun s l _ hl _=>g0 sn ⟨[(2,fun S0=>⟨Nat,fun k=>k<=l.length/\decide (s∈l)=decide (s∈l.drop k),fun k=>[(5,.int .i64 k)],fun _=>[],fun k=>l.length - k⟩)],[],[]⟩ func214 (Da s l hl)
theorem Bh:ak prog 154 (p1 .str fun s=>.ret (.bool (cZ s))):=
 b9 (ee func154) fun s _ _=>g0 (sc Bg sn) a0 func154 (Db s)
theorem kg:ak prog 116 (p1 .str fun s=>.ret (.bool (ay s))):=
 b9 (ee func116) fun s _ _=>g0 (sc pM (sc r6 (sc Bh sn))) a0 func116 (Dc s)
theorem pO:ak prog 119 (p1 .str fun s=>.ret (.bool (aQ s))):=
 b9 (ee func119) fun s _ _=>g0 (sc pN (sc r6 sn)) a0 func119 (B8 s)
theorem xU:ak prog 211 (p2 (.lst .str) (.int .i64) fun ns n=>.ret (.bool (eZ ns n))):=
 cG (ee func211) fun ns n hl _ _=>g0 (sc kg sn) ⟨[(2,fun S0=>⟨Nat,fun k=>k<=ns.length/\(ns.take k).all ay=true/\(ns.take k).Nodup,fun k=>[(5,.int .i64 k)],fun _=>[],fun k=>ns.length - k⟩),(7,fun S0=>EF S0 5 fun k0=>⟨Nat,fun j=>(j:Int)<=k0/\(ns.getD k0.toNat (dfl .str))∉ns.take j,fun j=>[(6,.int .i64 j)],fun _=>[],fun j=>k0.toNat - j⟩)],[],[]⟩ func211 (B9 ns n hl)
theorem Bi:ak prog 149 (p1 (.st .shape) fun s=>.ret (.bool (aj s))):=
 b9 (ee func149) fun s hs _=>g0 (sc xU (sc pO (sc kg sn))) a0 func149 (Dd s hs)
theorem vr:aD prog 89:=ee func89
theorem vt (n:Nat) (s:AL.Shape) (hs:Wf (.st .shape) s) (hn:sz s<=n+1) (hA:ak prog 89 (p1 (.st .shape) fun s=>⟨some (sz s<=n),none,.bool (allS aj s),[]⟩)):ax prog 89 [.st .shape s] [] (.ret (.bool (allS aj s))):=
 g0 (sc Bi (sc (hA) sn)) ⟨[(4,fun S0=>⟨Nat,fun k=>k<=s.parts.length/\allS aj s=allL aj (s.parts.drop k),fun k=>[(3,.int .i64 k)],fun _=>[],fun k=>s.parts.length - k⟩)],[],[]⟩ func89 (De n s hs hn)
theorem Bj:∀n:Nat,ak prog 89 (p1 (.st .shape) fun s=>⟨some (sz s<=n),none,.bool (allS aj s),[]⟩):=by
 intro n
 induction n with
 | zero=>exact b9 vr fun a _ ho=>absurd (ho _ rfl) (by have:=dT a;omega)
 | succ n ih=>exact b9 vr fun a hs ho=>vt n a hs (ho _ rfl) ih
theorem yV:aD prog 88:=ee func88
theorem xV (n:Nat) (s:AL.Shape) (hs:Wf (.st .shape) s) (hn:sz s<=n+1) (hb:n<=1000000) (hA:ak prog 88 (p1 (.st .shape) fun s=>⟨some (sz s<=n),none,.int .i64 (deepF s:Int),[]⟩)):ax prog 88 [.st .shape s] [] (.ret (.int .i64 (deepF s:Int))):=
 g0 (sc (hA) sn) ⟨[(3,fun S0=>⟨Nat × Int,fun x=>x.1<=s.parts.length/\0<=x.2/\max x.2 (maxDeep (s.parts.drop x.1):Int)=maxDeep s.parts,fun x=>[(3,.int .i64 x.2),(4,.int .i64 x.1)],fun _=>[],fun x=>s.parts.length - x.1⟩)],[],[]⟩ func88 (Ew n s hs hn hb)
theorem Dm:∀n:Nat,n<=1000000→ak prog 88 (p1 (.st .shape) fun s=>⟨some (sz s<=n),none,.int .i64 (deepF s:Int),[]⟩):=by
 intro n
 induction n with
 | zero=>exact fun _=>b9 yV fun a _ ho=>absurd (ho _ rfl) (by have:=dT a;omega)
 | succ n ih=>exact fun hb=>b9 yV fun a hs ho=>xV n a hs (ho _ rfl) (by omega) (ih (by omega))
theorem xW:ak prog 51 (p1 (.st .shape) fun s=>.ret (.int .i64 (aA s))):=
 b9 (ee func51) fun s hs _=>g0 (sc (uP (sz s)) (sc (Dm 400 (by decide)) (sc (Bj 400) sn))) a0 func51 (Ba s hs)
theorem Bk:ak prog 212 (p1 (.int .i64) fun p=>.ret (.bool (dM p))):=
 b9 (ee func212) fun p _ _=>g0 sn a0 func212 (Df p)
theorem Bl:ak prog 213 (p1 (.int .i64) fun p=>⟨some (0<=p/\p<=1114111),none,.str (cK p),[]⟩):=
 b9 (ee func213) fun p _ ho=>g0 sn a0 func213 (Dg p (ho _ rfl))
theorem Bm:ak prog 150 (p1 .str fun s=>.ret (.tup [.int .i64 (cn s).1,.int .i64 (cn s).2])):=
 b9 (ee func150) fun s hs _=>g0 (sc Bk (sc Bl sn)) ⟨[(16,fun S0=>⟨Nat,fun k=>1<=k/\k<=bC s/\(k=1→-300<=aV s k/\aV s k<=300)/\(k=2→-20000<=aV s k/\aV s k<=20000)/\(k=3→-1300000<=aV s k/\aV s k<=1300000)/\(k=4→-90000000<=aV s k/\aV s k<=90000000),fun k=>[(6,.int .i64 k),(5,.int .i64 (aV s k))],fun _=>[],fun k=>bC s - k⟩)],[],[(100013,fun S0=>⟨[(4,.int .i64 (bC s:Int)),(5,.int .i64 (fe s))],[]⟩)]⟩ func150 (Dh s hs)
theorem xX:ak prog 114 (p2 (.lst .str) .bool fun ns b=>.ret (.bool (dN ns b))):=
 cG (ee func114) fun ns b hl _ _=>g0 (sc kg sn) ⟨[(2,fun S0=>⟨Nat,fun k=>k<=ns.length/\(ns.take k).all ay=true/\(b=true→(ns.take k).Nodup),fun k=>[(5,.int .i64 k)],fun _=>[],fun k=>ns.length - k⟩),(7,fun S0=>EF S0 5 fun k0=>⟨Nat,fun j=>(j:Int)<=k0/\(b=true→(ns.getD k0.toNat (dfl .str))∉ns.take j)/\(b=false→j=0),fun j=>[(6,.int .i64 j)],fun _=>[],fun j=>k0.toNat - j⟩)],[],[]⟩ func114 (Bb ns b hl)
theorem pP:aD prog 184:=ee func184
theorem qo (n:Nat) (s:AL.Shape) (hs:Wf (.st .shape) s) (hn:sz s<=n+1) (hA:ak prog 184 (p1 (.st .shape) fun s=>⟨some (sz s<=n),none,.bool (!allS aT s),[]⟩)):ax prog 184 [.st .shape s] [] (.ret (.bool (!allS aT s))):=
 g0 (sc (hA) sn) ⟨[(2,fun S0=>⟨Nat,fun k=>k<=s.parts.length/\allS aT s=(aT s && allL aT (s.parts.drop k)),fun k=>[(3,.int .i64 k)],fun _=>[],fun k=>s.parts.length - k⟩)],[],[]⟩ func184 (xQ n s hs hn)
theorem vu:∀n:Nat,ak prog 184 (p1 (.st .shape) fun s=>⟨some (sz s<=n),none,.bool (!allS aT s),[]⟩):=by
 intro n
 induction n with
 | zero=>exact b9 pP fun a _ ho=>absurd (ho _ rfl) (by have:=dT a;omega)
 | succ n ih=>exact b9 pP fun a hs ho=>qo n a hs (ho _ rfl) ih
theorem vw:ak prog 115 (p1 (.lst (.st .shape)) fun l=>.ret (.bool (l.all bf))):=
 b9 (ee func115) fun l hl _=>g0 (sc xW (sc (vu 400) sn)) ⟨[(2,fun S0=>⟨Nat,fun k=>k<=l.length/\l.all bf=(l.drop k).all bf,fun k=>[(3,.int .i64 k)],fun _=>[],fun k=>l.length - k⟩)],[],[]⟩ func115 (xR l hl)
theorem xY:ak prog 117 (p5 (.st .term) (.int .i64) (.int .i64) (.int .i64) (.int .i64) fun t n v s p=>.ret (.bool (aS t n v s p))):=
 FO (ee func117) fun t n v s p _ _ _ _=>g0 sn a0 func117 (Bc t n v s p)
theorem vz:ak prog 185 (p1 .str fun s=>⟨some (s.length<=2000000),none,.tup [.lst (.int .i64) (ep s).1 none,.st .fault (ep s).2],[]⟩):=
 b9 (ee func185) fun s hs ho=>g0 (sc Bm sn) ⟨[(3,fun S0=>⟨Nat × Nat × List Int,fun y=>y.2.1<=s.length/\s.length - y.2.1 < y.1/\y.2.2.length<=y.2.1/\j8 s y.1 y.2.1 y.2.2=ep s,fun y=>[(5,.int .i64 (y.2.1:Int)),(4,.lst (.int .i64) y.2.2 (some 701))],fun y=>[(701,.tail (.int .i64) y.2.2.length)],fun y=>s.length - y.2.1⟩)],[],[]⟩ func185 (xS s hs (ho _ rfl))
theorem Bn:ak prog 118 (p1 .str fun s=>⟨some (s.length<=2000000),none,.bool (fL s),[]⟩):=
 b9 (ee func118) fun s hs ho=>g0 (sc vz sn) ⟨[(2,fun S0=>⟨Nat,fun k=>k<=s.length/\s.all bZ=(s.drop k).all bZ,fun k=>[(3,.int .i64 k)],fun _=>[],fun k=>s.length - k⟩)],[],[]⟩ func118 (Di s hs (ho _ rfl))
theorem Bp:ak prog 66 (p1 (.st .term) fun t=>⟨some (t.name.length<=2000000/\t.names.length<=2000000),none,.bool (ag t),[]⟩):=
 b9 (ee func66) fun t ht ho=>g0 (sc xX (sc vw (sc kg (sc pO (sc xY (sc Bn sn)))))) a0 func66 (Dj t ht (ho _ rfl))
theorem r8:aD prog 45:=ee func45
theorem sR (n:Nat) (t:Trm) (ht:Wf (.st .term) t) (hn:szT t<=n+1) (ho:dw t=true) (hA:ak prog 45 (p1 (.st .term) fun t=>⟨some (szT t<=n/\dw t=true),none,.bool (allT ag t),[]⟩)):ax prog 45 [.st .term t] [] (.ret (.bool (allT ag t))):=
 g0 (sc Bp (sc (hA) sn)) ⟨[(4,fun S0=>⟨Nat,fun k=>k<=t.parts.length/\allT ag t=allTL ag (t.parts.drop k),fun k=>[(3,.int .i64 k)],fun _=>[],fun k=>t.parts.length - k⟩)],[],[]⟩ func45 (Bd n t ht hn ho)
theorem xZ:∀n:Nat,ak prog 45 (p1 (.st .term) fun t=>⟨some (szT t<=n/\dw t=true),none,.bool (allT ag t),[]⟩):=by
 intro n
 induction n with
 | zero=>exact b9 r8 fun a _ ho=>absurd (ho _ rfl).1 (by have:=du a;omega)
 | succ n ih=>exact b9 r8 fun a hs ho=>sR n a hs (ho _ rfl).1 (ho _ rfl).2 ih
theorem vA:aD prog 44:=ee func44
theorem vB (n:Nat) (s:Trm) (hs:Wf (.st .term) s) (hn:szT s<=n+1) (hb:n<=1000000) (hA:ak prog 44 (p1 (.st .term) fun s=>⟨some (szT s<=n),none,.int .i64 (deepT s:Int),[]⟩)):ax prog 44 [.st .term s] [] (.ret (.int .i64 (deepT s:Int))):=
 g0 (sc (hA) sn) ⟨[(3,fun S0=>⟨Nat × Int,fun x=>x.1<=s.parts.length/\0<=x.2/\max x.2 (maxDT (s.parts.drop x.1):Int)=maxDT s.parts,fun x=>[(3,.int .i64 x.2),(4,.int .i64 x.1)],fun _=>[],fun x=>s.parts.length - x.1⟩)],[],[]⟩ func44 (Dk n s hs hn hb)
theorem Bq:∀n:Nat,n<=1000000→ak prog 44 (p1 (.st .term) fun s=>⟨some (szT s<=n),none,.int .i64 (deepT s:Int),[]⟩):=by
 intro n
 induction n with
 | zero=>exact fun _=>b9 vA fun a _ ho=>absurd (ho _ rfl) (by have:=du a;omega)
 | succ n ih=>exact fun hb=>b9 vA fun a hs ho=>vB n a hs (ho _ rfl) (by omega) (ih (by omega))
theorem y9:ak prog 26 (p1 (.st .term) fun s=>⟨some (dw s=true),none,.int .i64 (ba s),[]⟩):=
 b9 (ee func26) fun s hs ho=>g0 (sc (qV (szT s)) (sc (Bq 4096 (by decide)) (sc (xZ 4096) sn))) a0 func26 (Be s hs (ho _ rfl))
theorem rf:aD prog 65:=ee func65
theorem sS (n:Nat) (l:List AL.Shape) (hl:Wf (.lst (.st .shape)) l) (ho:szL l < n+1/\szL l<=1000000000/\allL nk l=true) (hA:ak prog 65 (p1 (.lst (.st .shape)) fun l=>⟨some (szL l < n/\szL l<=1000000000/\allL nk l=true),none,.lst (.st .shape) l none,[]⟩)):ax prog 65 [.lst (.st .shape) l none] [] (⟨some (szL l < n+1/\szL l<=1000000000/\allL nk l=true),none,.lst (.st .shape) l none,[]⟩):=
 g0 (sc (iB) (sc (hA) sn)) ⟨[(3,fun S0=>⟨Nat,fun k=>k<=l.length,fun k=>[(3,.lst (.st .shape) (l.take k) (some 701)),(8,.int .i64 k)],fun k=>[(701,.tail (.st .shape) (l.take k).length)],fun k=>l.length - k⟩)],[],[]⟩ func65 (Bf n l hl ho)
theorem pQ:∀n:Nat,ak prog 65 (p1 (.lst (.st .shape)) fun l=>⟨some (szL l < n/\szL l<=1000000000/\allL nk l=true),none,.lst (.st .shape) l none,[]⟩)
 | 0=>b9 rf fun l _ ho=>absurd (ho _ rfl).1 (Nat.not_lt_zero _)
 | n+1=>b9 rf fun l hl ho=>sS n l hl (ho _ rfl) (pQ n)
theorem yW:aD prog 43:=ee func43
theorem yb (n:Nat) (t:Trm) (ht:Wf (.st .term) t) (ho:szT t<=n+1/\gX t=true) (hA:ak prog 43 (p1 (.st .term) fun t=>⟨some (szT t<=n/\gX t=true),none,.st .term (bareT t),[]⟩)):ax prog 43 [.st .term t] [] (⟨some (szT t<=n+1/\gX t=true),none,.st .term (bareT t),[]⟩):=
 g0 (sc (iB) (sc (pQ (szL t.shapes+1)) (sc (hA) sn))) ⟨[(5,fun S0=>⟨Nat,fun k=>k<=t.parts.length,fun k=>[(3,.lst (.st .term) ((t.parts.take k).map bareT) (some 701)),(22,.int .i64 k)],fun k=>[(701,.tail (.st .term) ((t.parts.take k).map bareT).length)],fun k=>t.parts.length - k⟩)],[],[]⟩ func43 (Ex n t ht ho)
theorem vC:∀n:Nat,ak prog 43 (p1 (.st .term) fun t=>⟨some (szT t<=n/\gX t=true),none,.st .term (bareT t),[]⟩)
 | 0=>b9 yW fun t _ ho=>absurd (ho _ rfl).1 (by have:=du t;omega)
 | n+1=>b9 yW fun t ht ho=>yb n t ht (ho _ rfl) (vC n)
theorem Br:ak prog 25 (p1 (.st .term) fun t=>⟨some (bL t=true),none,.st .term (if ba t=0 then bareT t else t),[]⟩):=
 b9 (ee func25) fun t ht ho=>g0 (sc kT (sc (vC (szT t)) sn)) a0 func25 (Dl t ht (ho _ rfl))
theorem km (G:Trm→Envt→Shape × Flt) (N:Nat) (t:Trm) (e:Envt) (ht:Wf (.st .term) t) (he:Wf (.st .env) e) (hf:bL t=true) (hs:dw t=true) (hN:sz (G t e).1<=N) (hp:ba t=0→G (bareT t) e=((G t e).1,⟨(G t e).2.err,0⟩)/\bL (bareT t)=true) (hc:¬ba t=0→G t e=(aq,⟨ba t,0⟩)) (hG:ak prog 12 (p2 (.st .term) (.st .env) fun t e=>⟨some (bL t=true/\e.values.length<=1000000),none,.tup [.st .shape (G t e).1,.agg [.int .i64 (G t e).2.err,.int .i64 (G t e).2.pos]],[]⟩)) (hW:ak prog 11 (p0 (.ret (.bool true)))):ax prog 8 [.st .term t,.st .env e] [] (.ret (.bool true)):=
 g0 (sc uQ (sc vq (sc (hW) (sc (hG) (sc Br (sc kT (sc (xz N) (sc y9 sn)))))))) a0 func8 (mm G N t e ht he hf hs hN hp hc)
end Go.AL.Seat
end
noncomputable section
namespace Go.AL
def evN {α:Type} (n:Nat) (k:Nat→α):α:=match n with | 0=>k 0 | m+1=>k (m+1)
def evI {α:Type} (n:Int) (k:Int→α):α:=match n with | .ofNat m=>evN m fun m=>k (.ofNat m) | .negSucc m=>evN m fun m=>k (.negSucc m)
def evL {α β:Type}:List β→(List β→α)→α
 | [],k=>k []
 | a ::r,k=>evL r fun r=>k (a ::r)
theorem gY {α:Type} (n:Nat) (k:Nat→α):evN n k=k n:=by cases n <;> rfl
theorem Dn {α:Type} (n:Int) (k:Int→α):evI n k=k n:=by
 cases n <;> (unfold evI;exact gY _ _)
theorem fy {α β:Type}:∀(l:List β) (k:List β→α),evL l k=k l
 | [],_=>rfl
 | a ::r,k=>by rw [evL,fy r]
mutual
def evV {α:Type}:AV→(AV→α)→α
 | .int κ n,k=>evI n fun n=>k (.int κ n)
 | .bool true,k=>k (.bool true)
 | .bool false,k=>k (.bool false)
 | .str s,k=>evL s fun s=>k (.str s)
 | .lst τ xs none,k=>evL xs fun xs=>k (.lst τ xs none)
 | .lst τ xs (some i),k=>evL xs fun xs=>k (.lst τ xs (some i))
 | .row τ xs,k=>evL xs fun xs=>k (.row τ xs)
 | .arr i n w,k=>evN n fun n=>k (.arr i n w)
 | .aptr i n w o,k=>evN n fun n=>evN o fun o=>k (.aptr i n w o)
 | .cptr c,k=>evV c fun c=>k (.cptr c)
 | .agg cs,k=>evVs cs fun cs=>k (.agg cs)
 | .tup cs,k=>evVs cs fun cs=>k (.tup cs)
 | .fn f cs,k=>evVs cs fun cs=>k (.fn f cs)
 | .iface t a,k=>evV a fun a=>k (.iface t a)
 | .lstp τ xs i,k=>evL xs fun xs=>k (.lstp τ xs i)
 | .undef,k=>k .undef
 | .nils,k=>k .nils
 | .ptr i o,k=>k (.ptr i o)
 | .nilp,k=>k .nilp
 | .st n x,k=>k (.st n x)
 | .map i,k=>k (.map i)
 | .bptr i,k=>k (.bptr i)
 | .nilif,k=>k .nilif
 | .nilm,k=>k .nilm
 | .pt n x,k=>k (.pt n x)
 | .tptr τ n i,k=>k (.tptr τ n i)
def evVs {α:Type}:List AV→(List AV→α)→α
 | [],k=>k []
 | a ::r,k=>evV a fun a=>evVs r fun r=>k (a ::r)
end
mutual
theorem evV_eq {α:Type}:∀(a:AV) (k:AV→α),evV a k=k a
 | .int κ n,k=>by rw [evV,Dn]
 | .bool true,k=>rfl
 | .bool false,k=>rfl
 | .str s,k=>by rw [evV,fy]
 | .lst τ xs none,k=>by rw [evV,fy]
 | .lst τ xs (some i),k=>by rw [evV,fy]
 | .row τ xs,k=>by rw [evV,fy]
 | .arr i n w,k=>by rw [evV,gY]
 | .aptr i n w o,k=>by rw [evV,gY,gY]
 | .cptr c,k=>by rw [evV,evV_eq c]
 | .agg cs,k=>by rw [evV,evVs_eq cs]
 | .tup cs,k=>by rw [evV,evVs_eq cs]
 | .fn f cs,k=>by rw [evV,evVs_eq cs]
 | .iface t a,k=>by rw [evV,evV_eq a]
 | .lstp τ xs i,k=>by rw [evV,fy]
 | .undef,k=>rfl
 | .nils,k=>rfl
 | .ptr _ _,k=>rfl
 | .nilp,k=>rfl
 | .st _ _,k=>rfl
 | .map _,k=>rfl
 | .bptr _,k=>rfl
 | .nilif,k=>rfl
 | .nilm,k=>rfl
 | .pt _ _,k=>rfl
 | .tptr _ _ _,k=>rfl
theorem evVs_eq {α:Type}:∀(l:List AV) (k:List AV→α),evVs l k=k l
 | [],k=>rfl
 | a ::r,k=>by rw [evVs,evV_eq a,evVs_eq r]
end
def evA {α:Type} (a:AV) (k:AV→α):α:=
 match a with
 | .int κ n=>evI n fun n=>k (.int κ n)
 | .bool b=>(match b with | true=>k (.bool true) | false=>k (.bool false))
 | .str s=>evL s fun s=>k (.str s)
 | .lst τ xs o=>evL xs fun xs=>(match o with | none=>k (.lst τ xs none) | some i=>k (.lst τ xs (some i)))
 | .row τ xs=>evL xs fun xs=>k (.row τ xs)
 | .arr i n w=>evN n fun n=>k (.arr i n w)
 | .aptr i n w o=>evN n fun n=>evN o fun o=>k (.aptr i n w o)
 | .ptr i o=>evN o fun o=>k (.ptr i o)
 | .cptr c=>evV c fun c=>k (.cptr c)
 | .agg cs=>evVs cs fun cs=>k (.agg cs)
 | .tup cs=>evVs cs fun cs=>k (.tup cs)
 | .fn f cs=>evVs cs fun cs=>k (.fn f cs)
 | .iface t a=>evV a fun a=>k (.iface t a)
 | .lstp τ xs i=>evL xs fun xs=>k (.lstp τ xs i)
 | a=>k a
theorem Fl {α:Type} (a:AV) (k:AV→α):evA a k=k a:=by
 unfold evA
 split
 ·exact Dn _ _
 ·split <;> rfl
 ·exact fy _ _
 ·rw [fy];split <;> rfl
 ·exact fy _ _
 ·exact gY _ _
 ·rw [gY,gY]
 ·exact gY _ _
 ·exact evV_eq _ _
 ·exact evVs_eq _ _
 ·exact evVs_eq _ _
 ·exact evVs_eq _ _
 ·exact evV_eq _ _
 ·exact fy _ _
 ·rfl
def evO {α:Type}:SObj→(SObj→α)→α
 | .box c,k=>evV c fun c=>k (.box c)
 | .tail τ n,k=>evN n fun n=>k (.tail τ n)
 | .map κ τ m,k=>evL m fun m=>k (.map κ τ m)
 | .bld t u l,k=>evL l fun l=>k (.bld t u l)
 | .tailp τ n x,k=>evN n fun n=>k (.tailp τ n x)
theorem Fm {α:Type} (o:SObj) (k:SObj→α):evO o k=k o:=by
 cases o with
 | box c=>exact evV_eq _ _
 | tail τ n=>unfold evO;exact gY _ _
 | map κ τ m=>exact fy _ _
 | bld t u l=>exact fy _ _
 | tailp τ n x=>unfold evO;exact gY _ _
def evB {α:Type}:List (Nat × SObj)→(List (Nat × SObj)→α)→α
 | [],k=>k []
 | (i,o) ::r,k=>evO o fun o=>evB r fun r=>k ((i,o) ::r)
theorem sT {α:Type}:∀(l:List (Nat × SObj)) (k:List (Nat × SObj)→α),evB l k=k l
 | [],k=>rfl
 | (i,o) ::r,k=>by rw [evB,Fm,sT r]
def evS {α:Type} (s:St) (k:St→α):α:=evL s.t fun t=>evB s.b fun b=>k ⟨t,b⟩
theorem Dp {α:Type} (s:St) (k:St→α):evS s k=k s:=by rw [evS,fy,sT]
theorem Bt {ob:Option DP} {q:Prop} (h:okO ob=true) (hq:q):qt ob q:=by
 cases ob with
 | none=>exact hq
 | some d=>exact ⟨d.h h,hq⟩
def yX {α:Sort _} (ops:List Oper) (o:Oper) (T:Nat→AV) (bad:α) (on off:Unit→α):α:=
 match o.guard with
 | none=>on ()
 | some (j,want)=>
  match (nth ops j).bind (·.dst) with
  | none=>bad
  | some d=>
   match T d with
   | .bool true=>if want then on () else off ()
   | .bool false=>if want then off () else on ()
   | .tup []=>off ()
   | _=>bad
theorem ye {α:Type} {ops:List Oper} {o:Oper} {T:Nat→AV} {y:α} {on off:Unit→Option α} {on' off':Unit→Prop} (hon:on ()=some y→on' ()) (hoff:off ()=some y→off' ())
  (h:yX ops o T none on off=some y):yX ops o T False on' off':=by
 unfold yX at h ⊢
 cases hg:o.guard with
 | none=>simp only [hg] at h ⊢;exact hon h
 | some p=>
  obtain ⟨j,want⟩:=p
  simp only [hg] at h ⊢
  cases hd:(nth ops j).bind (·.dst) with
  | none=>simp only [hd] at h;cases h
  | some d=>
   simp only [hd] at h ⊢
   generalize T d=v at h ⊢
   split at h
   ·split at h
    ·rename_i hw;exact (if_pos hw).symm ▸ hon h
    ·rename_i hw;exact (if_neg hw).symm ▸ hoff h
   ·split at h
    ·rename_i hw;exact (if_pos hw).symm ▸ hoff h
    ·rename_i hw;exact (if_neg hw).symm ▸ hon h
   ·exact hoff h
   ·cases h
def gdB (ops:List Oper) (g:Bool) (i:Nat):Bool:=match g with | true=>fB ops i | false=>false
def Dq (ops:List Oper):Bool:=ops.any fun o=>o.guard.isSome
theorem Fo (ops:List Oper) (i:Nat):gdB ops (Dq ops) i=fB ops i:=by
 unfold gdB
 cases h:Dq ops with
 | true=>rfl
 | false=>
  show false=fB ops i
  symm
  unfold Dq at h
  rw [List.any_eq_false] at h
  unfold fB
  rw [List.any_eq_false]
  intro o ho
  have:=h o ho
  cases hg:o.guard with
  | none=>simp
  | some x=>rw [hg] at this;exact absurd rfl this
def vD (C:Cfg) (ops:List Oper) (g:Bool):List Oper→Nat→St→List db→Option (St × List db)
 | [],_,s,fs=>some (s,fs.reverse)
 | o ::r,i,s,fs=>
  yX ops o (bh s.t) none
   (fun _=>
    match aH C o (bh s.t) (aw s.b) with
    | none=>none
    | some e=>
     match okO e.ob,de C o (bh s.t) (aw s.b) with
     | true,none=>
      (match gdB ops g i,e.val with
      | true,.bool b=>(match b with
       | true=>vD C ops g r (i+1) ⟨nh s.t o.dst (.bool true),cd s.b e.upd⟩ ((aU C o (bh s.t) (aw s.b),e.upd.map (·.1)) ::fs)
       | false=>vD C ops g r (i+1) ⟨nh s.t o.dst (.bool false),cd s.b e.upd⟩ ((aU C o (bh s.t) (aw s.b),e.upd.map (·.1)) ::fs))
      | true,_=>none
      | false,v=>evA v fun v=>vD C ops g r (i+1) ⟨nh s.t o.dst v,cd s.b e.upd⟩ ((aU C o (bh s.t) (aw s.b),e.upd.map (·.1)) ::fs))
     | _,_=>none)
   (fun _=>vD C ops g r (i+1) ⟨nh s.t o.dst (.tup []),s.b⟩ (([],[]) ::fs))
theorem yY {C:Cfg} {ops:List Oper} {draw:Bool} {kp:AV→St→Prop} {k:St→List db→Prop} {s':St} {fs':List db} (hk:k s' fs') :
  ∀(l:List Oper) (i:Nat) (s:St) (fs:List db),vD C ops (Dq ops) l i s fs=some (s',fs')→bM C ops draw kp l i s fs k
 | [],_,s,fs,h=>by
  simp only [vD,Xs,Prod.mk.injEq] at h
  obtain ⟨rfl,rfl⟩:=h
  exact hk
 | o ::r,i,s,fs,h=>by
  have ih:=yY (C:=C) (ops:=ops) (draw:=draw) (kp:=kp) hk r
  rw [vD,Fo] at h
  refine ye (on':=fun _=>
   match aH C o (bh s.t) (aw s.b) with
   | none=>False
   | some e=>
    qt e.ob
    (match de C o (bh s.t) (aw s.b) with
    | none=>
     (match fB ops i,e.val with
     | true,.bool b=>
      sp b (bM C ops draw kp r (i+1) (s.put o.dst {e with val:=.bool true}) ((aU C o (bh s.t) (aw s.b),e.upd.map (·.1)) ::fs) k)
       (bM C ops draw kp r (i+1) (s.put o.dst {e with val:=.bool false}) ((aU C o (bh s.t) (aw s.b),e.upd.map (·.1)) ::fs) k)
     | true,_=>False
     | false,_=>bM C ops draw kp r (i+1) (s.put o.dst e) ((aU C o (bh s.t) (aw s.b),e.upd.map (·.1)) ::fs) k)
    | some (b,pv,u)=>
     (match draw || fB ops i with
     | true=>False
     | false=>sp b (kp pv ⟨s.t,cd s.b u⟩) (bM C ops draw kp r (i+1) (s.put o.dst e) ((aU C o (bh s.t) (aw s.b),e.upd.map (·.1)) ::fs) k))))
   (off':=fun _=>bM C ops draw kp r (i+1) ⟨nh s.t o.dst (.tup []),s.b⟩ (([],[]) ::fs) k) ?_ (fun h=>ih _ _ _ h) h
  intro h
  split at h
  ·cases h
  ·rename_i e he
   split at h
   ·rename_i ho hp
    refine Bt ho ?_
    try simp only [hp]
    split at h
    ·rename_i b hg hv
     try simp only [hg,hv]
     split at h
     ·exact ih _ _ _ h
     ·exact ih _ _ _ h
    ·cases h
    ·rename_i v hg
     simp only [Fl] at h
     try simp only [hg]
     exact ih _ _ _ h
   ·cases h
def Ey (ops:List Oper) (i j:Nat):Bool:=((rE ops).getD j 0).testBit i
def kE:Nat→List db→List (Nat × db)
 | _,[]=>[]
 | i,f ::r=>match f with | ([],[])=>kE (i+1) r | f=>(i,f) ::kE (i+1) r
def mn (ops:List Oper):List (Nat × db)→Bool
 | []=>true
 | x ::r=>r.all (fun p=>Ey ops x.1 p.1 || gx x.2 p.2) && mn ops r
def yZ (ops:List Oper):Bool:=
 ((List.range ops.length).all fun j=>(List.range j).all fun i=>Ey ops i j || (match nth ops i,nth ops j with | some x,some y=>nS ops x y | _,_=>false)) &&
 (ops.zipIdx.all fun (o,j)=>o.after.all fun e=>!Region.binds .any e || Nat.blt e.on j)
def yf (ops:List Oper) (fs:List db):Bool:=yZ ops && eH fs ops.length && mn ops (kE 0 fs)
theorem pR {α:Type}:∀{l:List α} {i:Nat},i < l.length→∃x,nth l i=some x
 | a ::_,0,_=>⟨a,rfl⟩
 | _ ::r,i+1,h=>pR (l:=r) (Nat.lt_of_succ_lt_succ h)
theorem rh:∀{fs:List db} {i0 k:Nat} {f:db},nth fs k=some f→f≠([],[])→(i0+k,f)∈kE i0 fs
 | g ::r,i0,0,f,h,hf=>by
  cases h
  unfold kE
  split
  ·exact absurd rfl hf
  ·exact List.mem_cons_self ..
 | g ::r,i0,k+1,f,h,hf=>by
  have ih:=rh (fs:=r) (i0:=i0+1) (k:=k) h hf
  rw [show i0+(k+1)=i0+1+k by omega]
  unfold kE
  split
  ·exact ih
  ·exact List.mem_cons_of_mem _ ih
theorem nd {ops:List Oper}:∀{fs:List db} {i0 a b:Nat} {f g:db},mn ops (kE i0 fs)=true→a < b→nth fs a=some f→nth fs b=some g→f≠([],[])→g≠([],[])→(Ey ops (i0+a) (i0+b) || gx f g)=true
 | x ::r,i0,0,b+1,f,g,h,_,hf,hg,h1,h2=>by
  cases hf
  have hm:=rh (fs:=r) (i0:=i0+1) (k:=b) hg h2
  unfold kE at h
  split at h
  ·exact absurd rfl h1
  ·unfold mn at h
   rw [Bool.and_eq_true,List.all_eq_true] at h
   have:=h.1 _ hm
   rwa [show i0+1+b=i0+(b+1) by omega] at this
 | x ::r,i0,a+1,b+1,f,g,h,hab,hf,hg,h1,h2=>by
  have hr:mn ops (kE (i0+1) r)=true:=by
   unfold kE at h
   split at h
   ·exact h
   ·unfold mn at h
    rw [Bool.and_eq_true] at h
    exact h.2
  have:=nd (fs:=r) (i0:=i0+1) (a:=a) (b:=b) hr (by omega) hf hg h1 h2
  rwa [show i0+1+a=i0+(a+1) by omega,show i0+1+b=i0+(b+1) by omega] at this
theorem yg (g:db):gx ([],[]) g=true:=by
 unfold gx tc
 simp
theorem vE (f:db):gx f ([],[])=true:=by
 unfold gx tc
 simp
theorem lG {α:Type}:∀{l:List α} {n:Nat},eH l n=true→l.length=n
 | [],0,_=>rfl
 | _ ::r,n+1,h=>by rw [List.length_cons,lG (l:=r) h]
theorem Bu {ops:List Oper} {fs:List db} (h:yf ops fs=true):dU ops fs=true:=by
 unfold yf yZ at h
 simp only [Bool.and_eq_true,List.all_eq_true,List.mem_range] at h
 obtain ⟨⟨⟨h1,h2⟩,h3⟩,h4⟩:=h
 have hl:=lG h3
 unfold dU
 rw [Bool.and_eq_true]
 refine ⟨?_,by rw [List.all_eq_true];intro p hp;have:=h2 p hp;exact (by obtain ⟨o,j⟩:=p;simpa using this)⟩
 rw [List.all_eq_true]
 intro j hj
 rw [List.all_eq_true]
 intro i hi
 rw [List.mem_range] at hj hi
 have k:=h1 j hj i hi
 rw [Bool.or_eq_true] at k ⊢
 rcases k with k | k
 ·exact .inl k
 obtain ⟨x,hx⟩:=pR (l:=ops) (i:=i) (by omega)
 obtain ⟨y,hy⟩:=pR (l:=ops) (i:=j) hj
 obtain ⟨f,hf⟩:=pR (l:=fs) (i:=i) (by omega)
 obtain ⟨g,hg⟩:=pR (l:=fs) (i:=j) (by omega)
 rw [hx,hy] at k
 rw [hx,hy,hf,hg]
 have q:Ey ops i j=true∨gx f g=true:=by
  by_cases c1:f=([],[])
  ·rw [c1];exact .inr (yg g)
  ·by_cases c2:g=([],[])
   ·rw [c2];exact .inr (vE f)
   ·have:=nd h4 hi hf hg c1 c2
    rw [Nat.zero_add,Nat.zero_add,Bool.or_eq_true] at this
    exact this
 rcases q with q | q
 ·exact .inl q
 ·exact .inr (by rw [Bool.and_eq_true];exact ⟨k,q⟩)
end Go.AL
end
noncomputable section
namespace Go.AL
variable [Tabs]
def Dr:List (Nat × SObj)→Nat→Nat
 | [],m=>m *1000+998
 | (i,_) ::r,m=>Dr r (match Nat.ble m (i / 1000) with | true=>i / 1000+1 | false=>m)
def sU:List Nat→St→Option St
 | [],s=>some s
 | i ::r,s=>(match DL i (Dr s.b 100) s with | some s=>sU r s | none=>none)
theorem lH {F:Fr} {a:Act}:∀(l:List Nat) {s s':St} {Ω:Om},Holds F s.abs a Ω→sU l s=some s'→∃Ω',Ω'.w=Ω.w/\Holds F s'.abs a Ω'
 | [],s,s',Ω,h,hr=>by cases hr;exact ⟨Ω,rfl,h⟩
 | i ::r,s,s',Ω,h,hr=>by
  unfold sU at hr
  split at hr
  ·rename_i s1 h1
   obtain ⟨Ω1,e1,g1⟩:=oM h h1
   obtain ⟨Ω2,e2,g2⟩:=lH r g1 hr
   exact ⟨Ω2,e2.trans e1,g2⟩
  ·cases hr
def yh (ops:List Oper) (s:St):Option St:=
 match enter ops s with
 | some s'=>some s'
 | none=>(match sU ((s.b.map (·.1)).filter fun i=>yx (nU ops) (rF ops) i && !bG i) s with | some s'=>enter ops s' | none=>none)
theorem sV {F:Fr} {ops:List Oper} {s s':St} {a:Act} {Ω:Om} (h:Holds F s.abs a Ω) (he:yh ops s=some s'):∃Ω',Ω'.w=Ω.w/\Holds F s'.abs a Ω':=by
 unfold yh at he
 split at he
 ·rename_i s1 h1;cases he;exact jy h h1
 ·split at he
  ·rename_i s1 h1
   obtain ⟨Ω1,e1,g1⟩:=lH _ h h1
   obtain ⟨Ω2,e2,g2⟩:=jy g1 he
   exact ⟨Ω2,e2.trans e1,g2⟩
  ·cases he
end Go.AL
end
noncomputable section
namespace Go.AL
def Ds (k:Nat) (s:St):Option St:=
 match aw s.b k with
 | some (.tailp τ n x)=>
  if ((s.t.flatMap (fun y=>lensV k y.2)++s.b.flatMap (fun y=>ED k y.2)).all fun m=>Nat.beq m n)=true then
   some ⟨s.t.map fun y=>(y.1,finV k τ x y.2),(ng s.b k (.tail τ (n+1))).map fun y=>(y.1,zi k τ x y.2)⟩ else none
 | _=>some s
def z6:List Nat→St→Option St
 | [],s=>some s
 | k ::r,s=>(match Ds k s with | some s=>z6 r s | none=>none)
theorem ri {n:Nat} {q:Prop} (hq:q):∀l:List Nat,(l.all fun m=>Nat.beq m n)=true→rG n l q
 | [],_=>hq
 | m ::r,h=>by
  rw [List.all_cons,Bool.and_eq_true] at h
  exact ⟨Nat.eq_of_beq_eq_true h.1,ri hq r h.2⟩
theorem Dt {k:Nat} {s s':St} {Q:St→Prop} (h:Ds k s=some s') (hq:Q s'):vU k s Q:=by
 unfold Ds at h
 unfold vU
 generalize hb:aw s.b k=b at h ⊢
 cases b with
 | none=>cases h;exact hq
 | some o=>
  cases o with
  | tailp τ n x=>
   dsimp only at h ⊢
   split at h
   ·rename_i ha
    cases h
    exact ri hq _ ha
   ·cases h
  | _=>cases h;exact hq
theorem vF {Q:St→Prop} {s':St} (hq:Q s'):∀(l:List Nat) (s:St),z6 l s=some s'→vV l s Q
 | [],s,h=>by cases h;exact hq
 | k ::r,s,h=>by
  unfold z6 at h
  split at h
  ·rename_i s1 h1
   exact Dt h1 (vF hq r s1 h)
  ·cases h
def trimM (keep:Nat) (s:St):St:=⟨s.t.filter fun x=>Nat.beq (Nat.land (Nat.shiftRight keep x.1) 1) 1,s.b⟩
def Fp (C:Cfg) (keep:Nat) (ops:Array Oper) (draw:Bool) (s:St):Option St:=
 match vD C ops.toList (Dq ops.toList) ops.toList 0 s [] with
 | none=>none
 | some (s,fs)=>
  match z6 (ny s.b) s with
  | none=>none
  | some s=>
   match draw with
   | false=>evS (trimM keep s) some
   | true=>(match yf ops.toList fs with | true=>evS (trimM keep s) some | false=>none)
theorem Holds.trimM [Tabs] {F:Fr} {s:St} {a:Act} {Ω:Om} (h:Holds F s.abs a Ω) (keep:Nat):Holds F (trimM keep s).abs a Ω:=by
 refine ⟨fun i=>?_,h.size,h.defers,h.slots,h.dom,h.inj,h.pubok,h.keep,h.frame⟩
 have e:(AL.trimM keep s).abs.T i=if Nat.beq (Nat.land (Nat.shiftRight keep i) 1) 1=true then bh s.t i else .undef:=gQ s.t (fun i=>Nat.beq (Nat.land (Nat.shiftRight keep i) 1) 1) i
 rw [e]
 split
 ·exact h.tmps i
 ·exact .undef _
theorem yi [Tabs] {P:Program} {C:Cfg} {F:Fr} (hm:P.follows .mixedOrders=true) (hT:bn P C.tbl) (hS:bT P C.spec) {keep:Nat} {id:Nat} {ops:Array Oper} {draw:Bool} {s s':St} {a:Act} {Ω:Om}
  (hdst:∀(o:Oper),o∈ops.toList→∀d,o.dst=some d→d < F.n) (h:Fp C keep ops draw s=some s') (hh:Holds F s.abs a Ω):(Code.region id ops draw).wp P (QL F fun y t=>y=.normal/\t=s') a Ω.w:=by
 have key:bM C ops.toList draw (fun _ _=>False) ops.toList 0 s [] fun s2 fs=>EX s2 fun s3=>s'=trimM keep s3/\(draw=true→dU ops.toList fs=true):=by
  unfold Fp at h
  split at h
  ·cases h
  ·rename_i s1 fs h1
   refine yY ?_ _ _ _ _ h1
   split at h
   ·cases h
   ·rename_i s2 h2
    refine vF ?_ _ _ h2
    split at h
    ·rw [Dp] at h
     cases h
     exact ⟨rfl,fun q=>by cases q⟩
    ·split at h
     ·rename_i hi
      rw [Dp] at h
      cases h
      exact ⟨rfl,fun _=>Bu hi⟩
     ·cases h
 refine lh hm hT hS hdst key (fun hdr s2 fs hk=>let ⟨s3,h3⟩:=mb _ hk;h3.2 hdr) hh (fun s2 fs a' Ω' hk h'=>
   let ⟨s3,Ω3,g1,g2,g3⟩:=oK h' hk
   ⟨.normal,trimM keep s3,Ω3,rfl,g1,g2.trimM keep,rfl,g3.1.symm⟩)
  (fun pv s2 a' Ω' v hk _ _=>hk.elim)
def z7 (f:St→Option (SX × St)):Nat→St→Option (SX × St)
 | 0,_=>none
 | n+1,s=>
  match f s with
  | some (.normal,s')=>z7 f n s'
  | r=>r
def iC (C:Cfg) (keep:Nat) (pubs:List (Nat × List Nat)) (N:Nat):Code→St→Option (SX × St)
 | .skip,s=>some (.normal,s)
 | .seq a b,s=>
  (match iC C keep pubs N a s with
  | some (.normal,s')=>iC C keep pubs N b s'
  | r=>r)
 | .cond c a b,s=>
  (match opd (bh s.t) c with
  | .bool true=>iC C keep pubs N a s
  | .bool false=>iC C keep pubs N b s
  | _=>none)
 | .block id c,s=>
  (match iC C keep pubs N c s with
  | some (.exit j,s')=>if j ==id then some (.normal,s') else some (.exit j,s')
  | r=>r)
 | .exit id,s=>some (.exit id,s)
 | .scope c,s=>iC C keep pubs N c s
 | .label _,s=>some (.normal,s)
 | .ret,s=>some (.ret,s)
 | .region id ops draw,s=>
  (match lO (te pubs id) s with
  | none=>none
  | some s=>
   match yh ops.toList s with
   | none=>none
   | some s=>
    match Fp C keep ops draw s with
    | some s=>some (.normal,s)
    | none=>none)
 | .loop c,s=>z7 (iC C keep pubs N c) N s
 | _,_=>none
variable [Tabs]
variable {P:Program} {C:Cfg} {F:Fr}
theorem yj (hm:P.follows .mixedOrders=true) (hT:bn P C.tbl) (hS:bT P C.spec) (keep:Nat) (pubs:List (Nat × List Nat)) (N:Nat) :
  ∀(c:Code) (s:St) (x:SX) (s':St) (a:Act) (Ω:Om),iC C keep pubs N c s=some (x,s')→bJ F.n c=true→Holds F s.abs a Ω→c.wp P (QL F fun y t=>y=x/\t=s') a Ω.w:=by
 intro c
 induction c with
 | skip=>intro s x s' a Ω h _ hh;cases h;exact wp_skip ⟨.normal,s,Ω,rfl,rfl,hh,rfl,rfl⟩
 | region id ops draw=>
  intro s x s' a Ω h hd hh
  unfold iC at h
  split at h
  ·cases h
  ·rename_i s0 h0
   obtain ⟨Ω0,e0,g0⟩:=iU _ hh h0
   split at h
   ·cases h
   ·rename_i s1 h1
    obtain ⟨Ω1,e1,g1⟩:=sV g0 h1
    have hdst:∀(o:Oper),o∈ops.toList→∀d,o.dst=some d→d < F.n:=by
     intro o ho d hod
     simp only [bJ,List.all_eq_true] at hd
     have:=hd o ho
     rw [hod] at this
     simpa using this
    split at h
    ·rename_i s2 h2
     cases h
     rw [←e0,←e1]
     exact yi hm hT hS hdst h2 g1
    ·cases h
 | seq x y ihx ihy=>
  intro s z s' a Ω h hd hh
  simp only [bJ,Bool.and_eq_true] at hd
  unfold iC at h
  cases h1:iC C keep pubs N x s with
  | none=>rw [h1] at h;cases h
  | some r=>
   obtain ⟨e1,s1⟩:=r
   rw [h1] at h
   refine wp_seq (wp_mono (ihx s e1 s1 a Ω h1 hd.1 hh) ?_)
   intro e a' w' hq
   obtain ⟨e2,s2,Ω',g1,g2,g3,g4,g5⟩:=hq
   subst g2 g4 g5
   cases e2 with
   | normal=>cases g1;exact ihy _ z s' a' Ω' h hd.2 g3
   | exit id=>cases g1;cases h;exact ⟨.exit id,_,Ω',rfl,rfl,g3,rfl,rfl⟩
   | ret=>cases g1;cases h;exact ⟨.ret,_,Ω',rfl,rfl,g3,rfl,rfl⟩
   | pan pv=>obtain ⟨v,rfl,hv⟩:=g1;cases h;exact ⟨.pan pv,_,Ω',⟨v,rfl,hv⟩,rfl,g3,rfl,rfl⟩
 | cond c x y ihx ihy=>
  intro s z s' a Ω h hd hh
  simp only [bJ,Bool.and_eq_true] at hd
  unfold iC at h
  have hv:=bz hh c
  split at h
  ·rename_i hb
   have hb':opd s.abs.T c=.bool true:=hb
   rw [hb'] at hv
   exact wp_cond hv.bool_inv (ihx _ z s' a Ω h hd.1 hh)
  ·rename_i hb
   have hb':opd s.abs.T c=.bool false:=hb
   rw [hb'] at hv
   exact wp_cond hv.bool_inv (ihy _ z s' a Ω h hd.2 hh)
  ·cases h
 | block id c ih=>
  intro s z s' a Ω h hd hh
  simp only [bJ] at hd
  unfold iC at h
  cases h1:iC C keep pubs N c s with
  | none=>rw [h1] at h;cases h
  | some r=>
   obtain ⟨e1,s1⟩:=r
   rw [h1] at h
   refine wp_block (wp_mono (ih s e1 s1 a Ω h1 hd hh) ?_)
   intro e a' w' hq
   obtain ⟨e2,s2,Ω',g1,g2,g3,g4,g5⟩:=hq
   subst g2 g4 g5
   cases e2 with
   | normal=>cases g1;cases h;exact ⟨.normal,_,Ω',rfl,rfl,g3,rfl,rfl⟩
   | ret=>cases g1;cases h;exact ⟨.ret,_,Ω',rfl,rfl,g3,rfl,rfl⟩
   | pan pv=>obtain ⟨v,rfl,hv⟩:=g1;cases h;exact ⟨.pan pv,_,Ω',⟨v,rfl,hv⟩,rfl,g3,rfl,rfl⟩
   | exit j=>
    cases g1
    simp only [wD,Exit.inBlock]
    by_cases hj:j=id
    ·subst hj
     simp only [beq_self_eq_true,if_true] at h
     cases h
     simp only [if_true]
     exact ⟨.normal,_,Ω',rfl,rfl,g3,rfl,rfl⟩
    ·simp only [beq_iff_eq,hj,if_false] at h
     cases h
     rw [if_neg hj]
     exact ⟨.exit j,_,Ω',rfl,rfl,g3,rfl,rfl⟩
 | loop c ih=>
  intro s z s' a Ω h hd hh
  simp only [bJ] at hd
  unfold iC at h
  refine wp_loop_rounds N ?_
  have key:∀(n:Nat) (s:St) (a:Act) (Ω:Om),z7 (iC C keep pubs N c) n s=some (z,s')→Holds F s.abs a Ω→Code.rounds P c (QL F fun y t=>y=z/\t=s') n a Ω.w:=by
   intro n
   induction n with
   | zero=>intro s a Ω h _;cases h
   | succ n ihn=>
    intro s a Ω h hh
    rw [rounds_succ]
    unfold z7 at h
    cases h1:iC C keep pubs N c s with
    | none=>rw [h1] at h;cases h
    | some r=>
     obtain ⟨e1,s1⟩:=r
     rw [h1] at h
     refine wp_mono (ih s e1 s1 a Ω h1 hd hh) ?_
     intro e a' w' hq
     obtain ⟨e2,s2,Ω',g1,g2,g3,g4,g5⟩:=hq
     subst g2 g4 g5
     cases e2 with
     | normal=>cases g1;exact ihn _ a' Ω' h g3
     | exit id=>cases g1;cases h;exact ⟨.exit id,_,Ω',rfl,rfl,g3,rfl,rfl⟩
     | ret=>cases g1;cases h;exact ⟨.ret,_,Ω',rfl,rfl,g3,rfl,rfl⟩
     | pan pv=>obtain ⟨v,rfl,hv⟩:=g1;cases h;exact ⟨.pan pv,_,Ω',⟨v,rfl,hv⟩,rfl,g3,rfl,rfl⟩
  exact key N s a Ω h hh
 | exit id=>intro s x s' a Ω h _ hh;cases h;exact wp_exit ⟨.exit id,s,Ω,rfl,rfl,hh,rfl,rfl⟩
 | ret=>intro s x s' a Ω h _ hh;cases h;exact wp_ret ⟨.ret,s,Ω,rfl,rfl,hh,rfl,rfl⟩
 | rangeFunc g ps x y _ _=>intro s z s' a Ω h;cases h
 | scope c ih=>
  intro s z s' a Ω h hd hh
  simp only [bJ] at hd
  unfold iC at h
  refine wp_scope_straight (wp_mono (ih s z s' a Ω h hd hh) ?_)
  intro e a' w' hq
  obtain ⟨e2,s2,Ω',h1,h2,h3,h4⟩:=hq
  cases e2 with
  | normal=>cases h1;exact ⟨.normal,_,Ω',rfl,h2,h3,h4⟩
  | exit id=>cases h1;exact ⟨.exit id,_,Ω',rfl,h2,h3,h4⟩
  | ret=>cases h1;exact ⟨.ret,_,Ω',rfl,h2,h3,h4⟩
  | pan pv=>obtain ⟨v,rfl,hv⟩:=h1;exact ⟨.pan pv,_,Ω',⟨v,rfl,hv⟩,h2,h3,h4⟩
 | label l=>intro s x s' a Ω h _ hh;cases h;exact wp_label ⟨.normal,s,Ω,rfl,rfl,hh,rfl,rfl⟩
 | goto l=>intro s z s' a Ω h;cases h
 | refuse why=>intro s z s' a Ω h;cases h
end Go.AL
end
noncomputable section
namespace Go.AL
variable [Tabs]
mutual
def fineV:AV→Bool
 | .lstp _ _ _=>false
 | .tptr _ _ _=>false
 | .cptr c=>fineV c
 | .agg cs=>fineVs cs
 | .tup cs=>fineVs cs
 | .fn _ cs=>fineVs cs
 | .iface _ a=>fineV a
 | _=>true
def fineVs:List AV→Bool
 | []=>true
 | a ::r=>fineV a && fineVs r
end
def EN:SObj→Bool
 | .box c=>fineV c
 | .tailp _ _ _=>false
 | _=>true
mutual
def strip:AV→AV
 | .lst τ xs _=>.lst τ xs none
 | .agg cs=>.agg (strips cs)
 | .tup cs=>.tup (strips cs)
 | a=>a
def strips:List AV→List AV
 | []=>[]
 | a ::r=>strip a ::strips r
end
theorem kU (τ:Ty) (xs:List (den τ)):fE τ τ xs=some xs:=by simp [fE]
theorem yk (n:SN) (x:SD n):jf n n x=some x:=by simp [jf]
theorem yl (n:SN) (x:Option (SD n)):mq n n x=some x:=by simp [mq]
theorem pS (a:AV):qu a a:=by cases a <;> trivial
mutual
theorem LeV_self (G:List Nat):∀a:AV,fineV a=true→LeV G a a
 | .undef,_=>bU (by simp [LeF])
 | .int k n,_=>bU (by simp [LeF])
 | .bool b,_=>bU (by simp [LeF])
 | .str s,_=>bU (by simp [LeF])
 | .lst τ xs o,_=>bU (by simp [LeF,kU])
 | .nils,_=>bU (by simp [LeF])
 | .ptr i o,_=>bU (by simp [LeF])
 | .nilp,_=>bU (by simp [LeF])
 | .pt n x,_=>bU (by simp [LeF,yl])
 | .st n x,_=>bU (by simp [LeF,yk])
 | .row τ xs,_=>bU (by simp [LeF,kU])
 | .arr i n w,_=>bU (by simp [LeF])
 | .aptr i n w o,_=>bU (by simp [LeF])
 | .map i,_=>bU (by simp [LeF])
 | .bptr i,_=>bU (by simp [LeF])
 | .nilif,_=>bU (by simp [LeF])
 | .nilm,_=>bU (by simp [LeF])
 | .cptr c,h=>by simp only [fineV] at h;unfold LeV;exact ⟨pS c,LeV_self G c h⟩
 | .agg cs,h=>by simp only [fineV] at h;unfold LeV;exact LeL_self G cs h
 | .tup cs,h=>by simp only [fineV] at h;unfold LeV;exact LeL_self G cs h
 | .fn f cs,h=>by simp only [fineV] at h;unfold LeV;exact ⟨by simp,LeL_self G cs h⟩
 | .iface t a,h=>by simp only [fineV] at h;unfold LeV;exact ⟨by simp,LeV_self G a h⟩
 | .lstp _ _ _,h=>by cases h
 | .tptr _ _ _,h=>by cases h
theorem LeL_self (G:List Nat):∀l:List AV,fineVs l=true→LeL G l l
 | [],_=>by unfold LeL;trivial
 | a ::r,h=>by
  simp only [fineVs,Bool.and_eq_true] at h
  unfold LeL
  exact ⟨LeV_self G a h.1,LeL_self G r h.2⟩
end
mutual
theorem LeV_strip (G:List Nat):∀a:AV,fineV a=true→LeV G a (strip a)
 | .lst τ xs o,_=>by unfold strip;exact bU (by simp [LeF,kU])
 | .agg cs,h=>by simp only [fineV] at h;unfold strip LeV;exact LeL_strip G cs h
 | .tup cs,h=>by simp only [fineV] at h;unfold strip LeV;exact LeL_strip G cs h
 | .undef,h=>LeV_self G _ h
 | .int k n,h=>LeV_self G _ h
 | .bool b,h=>LeV_self G _ h
 | .str s,h=>LeV_self G _ h
 | .nils,h=>LeV_self G _ h
 | .ptr i o,h=>LeV_self G _ h
 | .nilp,h=>LeV_self G _ h
 | .pt n x,h=>LeV_self G _ h
 | .st n x,h=>LeV_self G _ h
 | .row τ xs,h=>LeV_self G _ h
 | .arr i n w,h=>LeV_self G _ h
 | .aptr i n w o,h=>LeV_self G _ h
 | .map i,h=>LeV_self G _ h
 | .bptr i,h=>LeV_self G _ h
 | .nilif,h=>LeV_self G _ h
 | .nilm,h=>LeV_self G _ h
 | .cptr c,h=>LeV_self G _ h
 | .fn f cs,h=>LeV_self G _ h
 | .iface t a,h=>LeV_self G _ h
 | .lstp _ _ _,h=>by cases h
 | .tptr _ _ _,h=>by cases h
theorem LeL_strip (G:List Nat):∀l:List AV,fineVs l=true→LeL G l (strips l)
 | [],_=>by unfold strips LeL;trivial
 | a ::r,h=>by
  simp only [fineVs,Bool.and_eq_true] at h
  unfold strips LeL
  exact ⟨LeV_strip G a h.1,LeL_strip G r h.2⟩
end
theorem vG {G:List Nat} {s:St}:∀(l l':List AV) (k:Nat),LeL G l l'→(∀j,bh s.t (k+j)=l.getD j .undef)→LeT G s (cO k l')
 | [],[],k,_,_=>trivial
 | a ::r,b ::r',k,h,hg=>by
  unfold LeL at h
  refine ⟨?_,vG r r' (k+1) h.2 fun j=>?_⟩
  ·have:=hg 0
   rw [Nat.add_zero] at this
   rw [this]
   exact h.1
  ·have:=hg (j+1)
   rw [show k+1+j=k+(j+1) by omega,this]
   rfl
 | [],_ ::_,_,h,_=>by unfold LeL at h;exact h.elim
 | _ ::_,[],_,h,_=>by unfold LeL at h;exact h.elim
theorem jN {G:List Nat} {s:St}:∀l:List (Nat × SObj),(∀x∈l,aw s.b x.1=some x.2/\EN x.2=true)→LeB G s l
 | [],_=>trivial
 | (i,.box c) ::r,h=>by
  obtain ⟨h1,h2⟩:=h _ (List.mem_cons_self ..)
  refine ⟨?_,jN r fun x hx=>h x (List.mem_cons_of_mem _ hx)⟩
  simp only at h1
  rw [h1]
  exact ⟨pS c,LeV_self G c h2⟩
 | (i,.tail τ n) ::r,h=>by
  obtain ⟨h1,h2⟩:=h _ (List.mem_cons_self ..)
  refine ⟨?_,jN r fun x hx=>h x (List.mem_cons_of_mem _ hx)⟩
  simp only at h1
  rw [h1]
  simp
 | (i,.map κ τ m) ::r,h=>by
  obtain ⟨h1,h2⟩:=h _ (List.mem_cons_self ..)
  refine ⟨?_,jN r fun x hx=>h x (List.mem_cons_of_mem _ hx)⟩
  simp only at h1
  rw [h1]
  simp [yy]
 | (i,.bld t u l) ::r,h=>by
  obtain ⟨h1,h2⟩:=h _ (List.mem_cons_self ..)
  refine ⟨?_,jN r fun x hx=>h x (List.mem_cons_of_mem _ hx)⟩
  simp only at h1
  rw [h1]
  simp
 | (i,.tailp τ n x) ::r,h=>by
  obtain ⟨h1,h2⟩:=h _ (List.mem_cons_self ..)
  cases h2
end Go.AL
end
