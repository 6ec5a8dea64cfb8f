/- What the functions' conditions say, proved. The contracts of the functions. The layer: Go code as conditions, and that they are sound. Plain facts. No condition. -/
import Derived.Test.YtpiedfeneggkmaaGreatDoorT05
import Derived.LoopN
set_option linter.all false
set_option maxRecDepth 100000
section
open Go Go.AL Go.Pd
namespace Go.AL.Seat
theorem yT (n:Nat) (t:Trm) (e:Envt) (ht:Wf (.st .term) t) (he:Wf (.st .env) e) (hp:0 < t.parts.length) (hz:szT t<=n+1) (hf:allT aj t=true) (hv:e.values.length+4096 *szT t<=100000000) :
  ((0:Int)<=(0:Int)/\(0:Int) < (↑(List.length t.parts):Int))/\(szT (List.getD t.parts (Int.toNat (0:Int)) (dfl (Ty.st SN.term)))<=n/\allT aj (List.getD t.parts (Int.toNat (0:Int)) (dfl (Ty.st SN.term)))=true/\List.length e.values+(4096:Nat) *szT (List.getD t.parts (Int.toNat (0:Int)) (dfl (Ty.st SN.term)))<=(100000000:Nat))/\if (!decide ((aa n (List.getD t.parts (Int.toNat (0:Int)) (dfl (Ty.st SN.term))) e).2.err=(0:Int)))=true then True/\(aa n (List.getD t.parts (Int.toNat (0:Int)) (dfl (Ty.st SN.term))) e).1=(bO (aa n) t e).1/\(aa n (List.getD t.parts (Int.toNat (0:Int)) (dfl (Ty.st SN.term))) e).2.err=(bO (aa n) t e).2.err/\(aa n (List.getD t.parts (Int.toNat (0:Int)) (dfl (Ty.st SN.term))) e).2.pos=(bO (aa n) t e).2.pos/\True else if decide ((aa n (List.getD t.parts (Int.toNat (0:Int)) (dfl (Ty.st SN.term))) e).1.kind=(4:Int))=true then True/\(aa n (List.getD t.parts (Int.toNat (0:Int)) (dfl (Ty.st SN.term))) e).1=(bO (aa n) t e).1/\(aa n (List.getD t.parts (Int.toNat (0:Int)) (dfl (Ty.st SN.term))) e).2.err=(bO (aa n) t e).2.err/\(aa n (List.getD t.parts (Int.toNat (0:Int)) (dfl (Ty.st SN.term))) e).2.pos=(bO (aa n) t e).2.pos/\True else if (!decide ((aa n (List.getD t.parts (Int.toNat (0:Int)) (dfl (Ty.st SN.term))) e).1.kind=(6:Int)))=true then True/\(aa n (List.getD t.parts (Int.toNat (0:Int)) (dfl (Ty.st SN.term))) e).1=(bO (aa n) t e).1/\(140:Int)=(bO (aa n) t e).2.err/\t.pos=(bO (aa n) t e).2.pos/\True else if decide (bK (aa n (List.getD t.parts (Int.toNat (0:Int)) (dfl (Ty.st SN.term))) e).1.names t.name (0:Int) < (0:Int))=true then True/\(aa n (List.getD t.parts (Int.toNat (0:Int)) (dfl (Ty.st SN.term))) e).1=(bO (aa n) t e).1/\(140:Int)=(bO (aa n) t e).2.err/\t.pos=(bO (aa n) t e).2.pos/\True else ((0:Int)<=bK (aa n (List.getD t.parts (Int.toNat (0:Int)) (dfl (Ty.st SN.term))) e).1.names t.name (0:Int)/\bK (aa n (List.getD t.parts (Int.toNat (0:Int)) (dfl (Ty.st SN.term))) e).1.names t.name (0:Int) < (↑(List.length (aa n (List.getD t.parts (Int.toNat (0:Int)) (dfl (Ty.st SN.term))) e).1.parts):Int))/\True/\List.getD (aa n (List.getD t.parts (Int.toNat (0:Int)) (dfl (Ty.st SN.term))) e).1.parts (Int.toNat (bK (aa n (List.getD t.parts (Int.toNat (0:Int)) (dfl (Ty.st SN.term))) e).1.names t.name (0:Int))) (dfl (Ty.st SN.shape))=(bO (aa n) t e).1/\(0:Int)=(bO (aa n) t e).2.err/\(0:Int)=(bO (aa n) t e).2.pos/\True:=by
 have p0:=ow (dfl (.st .term)) hz hf hp
 refine ⟨by omega,⟨p0.1,p0.2.1,by have:=p0.2.2;rw [show Int.toNat 0=0 from rfl];omega⟩,?_⟩
 rw [show t.parts.getD (Int.toNat 0) (dfl (.st .term))=t.parts.getD 0 aA from rfl]
 unfold bO
 have hn:=@yt n (t.parts.getD 0 aA) e
 revert hn
 generalize aa n (t.parts.getD 0 aA) e=r
 intro hn
 dsimp only
 by_cases h1:r.2.err=0
 ·by_cases h4:r.1.kind=4
  ·simp [h1,h4]
  ·by_cases h6:r.1.kind=6
   ·rcases pO t.name (dfl (.st .shape)) (hn h1) with ⟨g1,g2⟩ | ⟨g1,g2,g3⟩
    ·have g1':bK r.1.names t.name 0 < 0:=by omega
     simp [h1,h6,g1',g2]
    ·have g1':¬bK r.1.names t.name 0 < 0:=by omega
     simp [h1,h6,g1',g3,g1,g2,cU]
   ·simp [h1,h4,h6]
 ·simp [h1]
theorem yU (t:Trm) (e:Envt) (ht:Wf (.st .term) t) (he:Wf (.st .env) e) (hs:t.shapes.length<=1000000) :
  (∃(x:Nat × List Shape),(x.1<=List.length t.shapes/\List.length x.2=x.1/\((ae e.types t.pos (List.drop x.1 t.shapes)).2.err=(0:Int)→ae e.types t.pos t.shapes=(x.2++(ae e.types t.pos (List.drop x.1 t.shapes)).1,cU))/\(¬(ae e.types t.pos (List.drop x.1 t.shapes)).2.err=(0:Int)→ae e.types t.pos t.shapes=ae e.types t.pos (List.drop x.1 t.shapes)))/\(0:Int)=(↑x.1:Int)/\x.2=[]/\t=t/\e=e/\t.shapes=t.shapes/\(↑(List.length t.shapes):Int)=(↑(List.length t.shapes):Int)/\List.length x.2=(0:Nat)/\t=t/\e=e/\(0:Int)=(0:Int)/\(0:Int)=(0:Int)/\True)/\∀(x:Nat × List Shape),x.1<=List.length t.shapes/\List.length x.2=x.1/\((ae e.types t.pos (List.drop x.1 t.shapes)).2.err=(0:Int)→ae e.types t.pos t.shapes=(x.2++(ae e.types t.pos (List.drop x.1 t.shapes)).1,cU))/\(¬(ae e.types t.pos (List.drop x.1 t.shapes)).2.err=(0:Int)→ae e.types t.pos t.shapes=ae e.types t.pos (List.drop x.1 t.shapes))→if decide ((↑x.1:Int) < (↑(List.length t.shapes):Int))=true then ((0:Int)<=(↑x.1:Int)/\(↑x.1:Int) < (↑(List.length t.shapes):Int))/\if (!decide ((au (List.getD t.shapes (Int.toNat (↑x.1:Int)) (dfl (Ty.st SN.shape))) e.types).2=(0:Int)))=true then True/\(ae e.types t.pos t.shapes).1=[]/\(au (List.getD t.shapes (Int.toNat (↑x.1:Int)) (dfl (Ty.st SN.shape))) e.types).2=(ae e.types t.pos t.shapes).2.err/\t.pos=(ae e.types t.pos t.shapes).2.pos/\List.length (ae e.types t.pos t.shapes).1=(0:Nat)/\True else (List.length x.2=List.length x.2/\(List.length x.2+List.length [(au (List.getD t.shapes (Int.toNat (↑x.1:Int)) (dfl (Ty.st SN.shape))) e.types).1]) *(88:Nat)<=(140737488355328:Nat))/\inR IntKind.i64 ((↑x.1:Int)+(1:Int))/\∃(y:Nat × List Shape),(y.1<=List.length t.shapes/\List.length y.2=y.1/\((ae e.types t.pos (List.drop y.1 t.shapes)).2.err=(0:Int)→ae e.types t.pos t.shapes=(y.2++(ae e.types t.pos (List.drop y.1 t.shapes)).1,cU))/\(¬(ae e.types t.pos (List.drop y.1 t.shapes)).2.err=(0:Int)→ae e.types t.pos t.shapes=ae e.types t.pos (List.drop y.1 t.shapes)))/\List.length t.shapes - y.1 < List.length t.shapes - x.1/\(↑x.1:Int)+(1:Int)=(↑y.1:Int)/\x.2++[(au (List.getD t.shapes (Int.toNat (↑x.1:Int)) (dfl (Ty.st SN.shape))) e.types).1]=y.2/\t=t/\e=e/\t.shapes=t.shapes/\(↑(List.length t.shapes):Int)=(↑(List.length t.shapes):Int)/\List.length (x.2++[(au (List.getD t.shapes (Int.toNat (↑x.1:Int)) (dfl (Ty.st SN.shape))) e.types).1])=List.length y.2/\t=t/\e=e/\(0:Int)=(0:Int)/\(0:Int)=(0:Int)/\True else True/\x.2=(ae e.types t.pos t.shapes).1/\(0:Int)=(ae e.types t.pos t.shapes).2.err/\(0:Int)=(ae e.types t.pos t.shapes).2.pos/\List.length x.2=List.length (ae e.types t.pos t.shapes).1/\True:=by
 simp only [Int.toNat_natCast,eq_self,true_and,and_true]
 refine ⟨⟨(0,[]),⟨Nat.zero_le _,rfl,fun h=>pQ h,fun _=>rfl⟩,rfl,rfl,rfl⟩,?_⟩
 rintro ⟨k,q⟩ ⟨h1,h2,h3,h4⟩
 dsimp only at h1 h2 h3 h4 ⊢
 refine ab (fun h=>?_) (fun h=>?_)
 ·replace h:=Xo h
  have hk:k < t.shapes.length:=by omega
  rw [aH t.shapes k (dfl (.st .shape)) hk,gm] at h3 h4
  refine ⟨by omega,ab (fun c=>?_) (fun c=>?_)⟩
  ·have c:¬(au (t.shapes.getD k (dfl (.st .shape))) e.types).2=0:=by simpa using c
   rw [if_neg c] at h4
   rw [h4 c]
   exact ⟨rfl,rfl,rfl,rfl⟩
  ·have c:(au (t.shapes.getD k (dfl (.st .shape))) e.types).2=0:=by simpa using c
   rw [if_pos c] at h3 h4
   refine ⟨by simp only [List.length_cons,List.length_nil];omega,bc hk (by omega),(k+1,q++[_]),⟨by omega,by simp [h2],fun g=>?_,fun g=>?_⟩,by dsimp only;omega,by dsimp only;omega,rfl,rfl⟩
   ·dsimp only at g
    rw [if_pos g] at h3
    rw [h3 rfl];simp
   ·dsimp only at g
    rw [if_neg g] at h4
    rw [h4 g,←vr g]
 ·replace h:¬((k:Int) < (t.shapes.length:Int)):=fun e=>h (Xd e)
  have e:k=t.shapes.length:=by omega
  subst e
  rw [List.drop_length] at h3
  rw [h3 rfl]
  simp [ae,cU]
theorem AZ (n:Nat) (t:Trm) (e:Envt) (ht:Wf (.st .term) t) (he:Wf (.st .env) e) (hp:0 < t.parts.length) (hz:szT t<=n+1) (hf:allT aj t=true) (hv:e.values.length+4096 *szT t<=100000000) :
  ((0:Int)<=(0:Int)/\(0:Int) < (↑(List.length t.parts):Int))/\(szT (List.getD t.parts (Int.toNat (0:Int)) (dfl (Ty.st SN.term)))<=n/\allT aj (List.getD t.parts (Int.toNat (0:Int)) (dfl (Ty.st SN.term)))=true/\List.length e.values+(4096:Nat) *szT (List.getD t.parts (Int.toNat (0:Int)) (dfl (Ty.st SN.term)))<=(100000000:Nat))/\if (!decide ((aa n (List.getD t.parts (Int.toNat (0:Int)) (dfl (Ty.st SN.term))) e).2.err=(0:Int)))=true then True/\(aa n (List.getD t.parts (Int.toNat (0:Int)) (dfl (Ty.st SN.term))) e).1=(bL (aa n) t e).1/\(aa n (List.getD t.parts (Int.toNat (0:Int)) (dfl (Ty.st SN.term))) e).2.err=(bL (aa n) t e).2.err/\(aa n (List.getD t.parts (Int.toNat (0:Int)) (dfl (Ty.st SN.term))) e).2.pos=(bL (aa n) t e).2.pos/\True else (if (!decide ((aa n (List.getD t.parts (Int.toNat (0:Int)) (dfl (Ty.st SN.term))) e).1.kind=(4:Int)))=true then if (!decide ((aa n (List.getD t.parts (Int.toNat (0:Int)) (dfl (Ty.st SN.term))) e).1.kind=(8:Int)))=true then true=(!decide ((aa n (List.getD t.parts (0:Nat) aA) e).1.kind=(4:Int)) && (!decide ((aa n (List.getD t.parts (0:Nat) aA) e).1.kind=(8:Int)) || !decide (List.length (aa n (List.getD t.parts (0:Nat) aA) e).1.parts=List.length t.parts)))/\t=t/\e=e/\false=false/\decide ((aa n (List.getD t.parts (Int.toNat (0:Int)) (dfl (Ty.st SN.term))) e).1.kind=(4:Int))=decide ((aa n (List.getD t.parts (Int.toNat (0:Int)) (dfl (Ty.st SN.term))) e).1.kind=(4:Int))/\t=t/\e=e/\(0:Int)=(0:Int)/\aD UInt8=aD UInt8/\aD UInt8=aD UInt8/\(0:Int)=(0:Int)/\(0:Int)=(0:Int)/\(aa n (List.getD t.parts (Int.toNat (0:Int)) (dfl (Ty.st SN.term))) e).1=(aa n (List.getD t.parts (Int.toNat (0:Int)) (dfl (Ty.st SN.term))) e).1/\(aa n (List.getD t.parts (Int.toNat (0:Int)) (dfl (Ty.st SN.term))) e).2.err=(aa n (List.getD t.parts (Int.toNat (0:Int)) (dfl (Ty.st SN.term))) e).2.err/\(aa n (List.getD t.parts (Int.toNat (0:Int)) (dfl (Ty.st SN.term))) e).2.pos=(aa n (List.getD t.parts (Int.toNat (0:Int)) (dfl (Ty.st SN.term))) e).2.pos/\True else (!decide ((↑(List.length (aa n (List.getD t.parts (Int.toNat (0:Int)) (dfl (Ty.st SN.term))) e).1.parts):Int)=(↑(List.length t.parts):Int)))=(!decide ((aa n (List.getD t.parts (0:Nat) aA) e).1.kind=(4:Int)) && (!decide ((aa n (List.getD t.parts (0:Nat) aA) e).1.kind=(8:Int)) || !decide (List.length (aa n (List.getD t.parts (0:Nat) aA) e).1.parts=List.length t.parts)))/\t=t/\e=e/\false=false/\decide ((aa n (List.getD t.parts (Int.toNat (0:Int)) (dfl (Ty.st SN.term))) e).1.kind=(4:Int))=decide ((aa n (List.getD t.parts (Int.toNat (0:Int)) (dfl (Ty.st SN.term))) e).1.kind=(4:Int))/\t=t/\e=e/\(0:Int)=(0:Int)/\aD UInt8=aD UInt8/\aD UInt8=aD UInt8/\(0:Int)=(0:Int)/\(0:Int)=(0:Int)/\(aa n (List.getD t.parts (Int.toNat (0:Int)) (dfl (Ty.st SN.term))) e).1=(aa n (List.getD t.parts (Int.toNat (0:Int)) (dfl (Ty.st SN.term))) e).1/\(aa n (List.getD t.parts (Int.toNat (0:Int)) (dfl (Ty.st SN.term))) e).2.err=(aa n (List.getD t.parts (Int.toNat (0:Int)) (dfl (Ty.st SN.term))) e).2.err/\(aa n (List.getD t.parts (Int.toNat (0:Int)) (dfl (Ty.st SN.term))) e).2.pos=(aa n (List.getD t.parts (Int.toNat (0:Int)) (dfl (Ty.st SN.term))) e).2.pos/\True else false=(!decide ((aa n (List.getD t.parts (0:Nat) aA) e).1.kind=(4:Int)) && (!decide ((aa n (List.getD t.parts (0:Nat) aA) e).1.kind=(8:Int)) || !decide (List.length (aa n (List.getD t.parts (0:Nat) aA) e).1.parts=List.length t.parts)))/\t=t/\e=e/\false=false
  /\decide ((aa n (List.getD t.parts (Int.toNat (0:Int)) (dfl (Ty.st SN.term))) e).1.kind=(4:Int))=decide ((aa n (List.getD t.parts (Int.toNat (0:Int)) (dfl (Ty.st SN.term))) e).1.kind=(4:Int))/\t=t/\e=e/\(0:Int)=(0:Int)/\aD UInt8=aD UInt8/\aD UInt8=aD UInt8/\(0:Int)=(0:Int)/\(0:Int)=(0:Int)/\(aa n (List.getD t.parts (Int.toNat (0:Int)) (dfl (Ty.st SN.term))) e).1=(aa n (List.getD t.parts (Int.toNat (0:Int)) (dfl (Ty.st SN.term))) e).1/\(aa n (List.getD t.parts (Int.toNat (0:Int)) (dfl (Ty.st SN.term))) e).2.err=(aa n (List.getD t.parts (Int.toNat (0:Int)) (dfl (Ty.st SN.term))) e).2.err/\(aa n (List.getD t.parts (Int.toNat (0:Int)) (dfl (Ty.st SN.term))) e).2.pos=(aa n (List.getD t.parts (Int.toNat (0:Int)) (dfl (Ty.st SN.term))) e).2.pos/\True)/\if (!decide ((aa n (List.getD t.parts (0:Nat) aA) e).1.kind=(4:Int)) && (!decide ((aa n (List.getD t.parts (0:Nat) aA) e).1.kind=(8:Int)) || !decide (List.length (aa n (List.getD t.parts (0:Nat) aA) e).1.parts=List.length t.parts)))=true then True/\(aa n (List.getD t.parts (Int.toNat (0:Int)) (dfl (Ty.st SN.term))) e).1=(bL (aa n) t e).1/\(140:Int)=(bL (aa n) t e).2.err/\t.pos=(bL (aa n) t e).2.pos/\True else ((0:Int)<=(1:Int)/\(1:Int)<=(↑(List.length t.parts):Int)/\(↑(List.length t.parts):Int)<=(↑(List.length t.parts):Int))/\(∃(x:Nat),(x+(1:Nat)<=List.length t.parts/\((aa n (List.getD t.parts (0:Nat) aA) e).1.kind=(4:Int)→cn (aa n) e (ofK (4:Int)) (List.drop (1:Nat) t.parts)=cn (aa n) e (ofK (4:Int)) (List.drop (x+(1:Nat)) t.parts))/\(¬(aa n (List.getD t.parts (0:Nat) aA) e).1.kind=(4:Int)→dB (aa n) e (List.drop (1:Nat) t.parts) (aa n (List.getD t.parts (0:Nat) aA) e).1.parts=dB (aa n) e (List.drop (x+(1:Nat)) t.parts) (List.drop x (aa n (List.getD t.parts (0:Nat) aA) e).1.parts)))/\(0:Int)=(↑x:Int)/\false=false/\t=t/\e=e/\false=false/\decide ((aa n (List.getD t.parts (Int.toNat (0:Int)) (dfl (Ty.st SN.term))) e).1.kind=(4:Int))=decide ((aa n (List.getD t.parts (Int.toNat (0:Int)) (dfl (Ty.st SN.term))) e).1.kind=(4:Int))/\List.drop (Int.toNat (1:Int)) (List.take (Int.toNat (↑(List.length t.parts):Int)) t.parts)=List.drop (Int.toNat (1:Int)) (List.take (Int.toNat (↑(List.length t.parts):Int)) t.parts)/\(↑(List.length (List.drop (Int.toNat (1:Int)) (List.take (Int.toNat (↑(List.length t.parts):Int)) t.parts))):Int)=(↑(List.length (List.drop (Int.toNat (1:Int)) (List.take (Int.toNat (↑(List.length t.parts):Int)) t.parts))):Int)/\t=t/\e=e/\(0:Int)=(0:Int)/\aD UInt8=aD UInt8/\aD UInt8=aD UInt8/\(0:Int)=(0:Int)/\(0:Int)=(0:Int)/\(aa n (List.getD t.parts (Int.toNat (0:Int)) (dfl (Ty.st SN.term))) e).1=(aa n (List.getD t.parts (Int.toNat (0:Int)) (dfl (Ty.st SN.term))) e).1/\(aa n (List.getD t.parts (Int.toNat (0:Int)) (dfl (Ty.st SN.term))) e).2.err=(aa n (List.getD t.parts (Int.toNat (0:Int)) (dfl (Ty.st SN.term))) e).2.err/\(aa n (List.getD t.parts (Int.toNat (0:Int)) (dfl (Ty.st SN.term))) e).2.pos=(aa n (List.getD t.parts (Int.toNat (0:Int)) (dfl (Ty.st SN.term))) e).2.pos/\True)/\∀(x:Nat),x+(1:Nat)<=List.length t.parts/\((aa n (List.getD t.parts (0:Nat) aA) e).1.kind=(4:Int)→cn (aa n) e (ofK (4:Int)) (List.drop (1:Nat) t.parts)=cn (aa n) e (ofK (4:Int)) (List.drop (x+(1:Nat)) t.parts))
  /\(¬(aa n (List.getD t.parts (0:Nat) aA) e).1.kind=(4:Int)→dB (aa n) e (List.drop (1:Nat) t.parts) (aa n (List.getD t.parts (0:Nat) aA) e).1.parts=dB (aa n) e (List.drop (x+(1:Nat)) t.parts) (List.drop x (aa n (List.getD t.parts (0:Nat) aA) e).1.parts))→if decide ((↑x:Int) < (↑(List.length (List.drop (Int.toNat (1:Int)) (List.take (Int.toNat (↑(List.length t.parts):Int)) t.parts))):Int))=true then ((0:Int)<=(↑x:Int)/\(↑x:Int) < (↑(List.length (List.drop (Int.toNat (1:Int)) (List.take (Int.toNat (↑(List.length t.parts):Int)) t.parts))):Int))/\if (!decide ((aa n (List.getD t.parts (Int.toNat (0:Int)) (dfl (Ty.st SN.term))) e).1.kind=(4:Int)))=true then ((0:Int)<=(↑x:Int)/\(↑x:Int) < (↑(List.length (aa n (List.getD t.parts (Int.toNat (0:Int)) (dfl (Ty.st SN.term))) e).1.parts):Int))/\(szT (List.getD (List.drop (Int.toNat (1:Int)) (List.take (Int.toNat (↑(List.length t.parts):Int)) t.parts)) (Int.toNat (↑x:Int)) (dfl (Ty.st SN.term)))<=n/\allT aj (List.getD (List.drop (Int.toNat (1:Int)) (List.take (Int.toNat (↑(List.length t.parts):Int)) t.parts)) (Int.toNat (↑x:Int)) (dfl (Ty.st SN.term)))=true/\List.length e.values+(4096:Nat) *szT (List.getD (List.drop (Int.toNat (1:Int)) (List.take (Int.toNat (↑(List.length t.parts):Int)) t.parts)) (Int.toNat (↑x:Int)) (dfl (Ty.st SN.term)))<=(100000000:Nat))/\if (!decide ((ay (aa n) (List.getD (List.drop (Int.toNat (1:Int)) (List.take (Int.toNat (↑(List.length t.parts):Int)) t.parts)) (Int.toNat (↑x:Int)) (dfl (Ty.st SN.term))) (List.getD (aa n (List.getD t.parts (Int.toNat (0:Int)) (dfl (Ty.st SN.term))) e).1.parts (Int.toNat (↑x:Int)) (dfl (Ty.st SN.shape))) e).err=(0:Int)))=true then True/\(aa n (List.getD t.parts (Int.toNat (0:Int)) (dfl (Ty.st SN.term))) e).1=(bL (aa n) t e).1/\(ay (aa n) (List.getD (List.drop (Int.toNat (1:Int)) (List.take (Int.toNat (↑(List.length t.parts):Int)) t.parts)) (Int.toNat (↑x:Int)) (dfl (Ty.st SN.term))) (List.getD (aa n (List.getD t.parts (Int.toNat (0:Int)) (dfl (Ty.st SN.term))) e).1.parts (Int.toNat (↑x:Int)) (dfl (Ty.st SN.shape))) e).err=(bL (aa n) t e).2.err/\(ay (aa n) (List.getD (List.drop (Int.toNat (1:Int)) (List.take (Int.toNat (↑(List.length t.parts):Int)) t.parts)) (Int.toNat (↑x:Int)) (dfl (Ty.st SN.term))) (List.getD (aa n (List.getD t.parts (Int.toNat (0:Int)) (dfl (Ty.st SN.term))) e).1.parts (Int.toNat (↑x:Int)) (dfl (Ty.st SN.shape))) e).pos=(bL (aa n) t e).2.pos/\True else inR IntKind.i64 ((↑x:Int)+(1:Int))/\∃(y:Nat),(y+(1:Nat)<=List.length t.parts/\((aa n (List.getD t.parts (0:Nat) aA) e).1.kind=(4:Int)→cn (aa n) e (ofK (4:Int)) (List.drop (1:Nat) t.parts)=cn (aa n) e (ofK (4:Int)) (List.drop (y+(1:Nat)) t.parts))/\(¬(aa n (List.getD t.parts (0:Nat) aA) e).1.kind=(4:Int)→dB (aa n) e (List.drop (1:Nat) t.parts) (aa n (List.getD t.parts (0:Nat) aA) e).1.parts=dB (aa n) e (List.drop (y+(1:Nat)) t.parts) (List.drop y (aa n (List.getD t.parts (0:Nat) aA) e).1.parts)))/\List.length t.parts - y < List.length t.parts - x/\(↑x:Int)+(1:Int)=(↑y:Int)/\false=false/\t=t/\e=e/\false=false/\decide ((aa n (List.getD t.parts (Int.toNat (0:Int)) (dfl (Ty.st SN.term))) e).1.kind=(4:Int))=decide ((aa n (List.getD t.parts (Int.toNat (0:Int)) (dfl (Ty.st SN.term))) e).1.kind=(4:Int))/\List.drop (Int.toNat (1:Int)) (List.take (Int.toNat (↑(List.length t.parts):Int)) t.parts)=List.drop (Int.toNat (1:Int)) (List.take (Int.toNat (↑(List.length t.parts):Int)) t.parts)
  /\(↑(List.length (List.drop (Int.toNat (1:Int)) (List.take (Int.toNat (↑(List.length t.parts):Int)) t.parts))):Int)=(↑(List.length (List.drop (Int.toNat (1:Int)) (List.take (Int.toNat (↑(List.length t.parts):Int)) t.parts))):Int)/\t=t/\e=e/\(0:Int)=(0:Int)/\aD UInt8=aD UInt8/\aD UInt8=aD UInt8/\(0:Int)=(0:Int)/\(0:Int)=(0:Int)/\(aa n (List.getD t.parts (Int.toNat (0:Int)) (dfl (Ty.st SN.term))) e).1=(aa n (List.getD t.parts (Int.toNat (0:Int)) (dfl (Ty.st SN.term))) e).1/\(aa n (List.getD t.parts (Int.toNat (0:Int)) (dfl (Ty.st SN.term))) e).2.err=(aa n (List.getD t.parts (Int.toNat (0:Int)) (dfl (Ty.st SN.term))) e).2.err/\(aa n (List.getD t.parts (Int.toNat (0:Int)) (dfl (Ty.st SN.term))) e).2.pos=(aa n (List.getD t.parts (Int.toNat (0:Int)) (dfl (Ty.st SN.term))) e).2.pos/\True else (szT (List.getD (List.drop (Int.toNat (1:Int)) (List.take (Int.toNat (↑(List.length t.parts):Int)) t.parts)) (Int.toNat (↑x:Int)) (dfl (Ty.st SN.term)))<=n/\allT aj (List.getD (List.drop (Int.toNat (1:Int)) (List.take (Int.toNat (↑(List.length t.parts):Int)) t.parts)) (Int.toNat (↑x:Int)) (dfl (Ty.st SN.term)))=true/\List.length e.values+(4096:Nat) *szT (List.getD (List.drop (Int.toNat (1:Int)) (List.take (Int.toNat (↑(List.length t.parts):Int)) t.parts)) (Int.toNat (↑x:Int)) (dfl (Ty.st SN.term)))<=(100000000:Nat))/\if (!decide ((ay (aa n) (List.getD (List.drop (Int.toNat (1:Int)) (List.take (Int.toNat (↑(List.length t.parts):Int)) t.parts)) (Int.toNat (↑x:Int)) (dfl (Ty.st SN.term))) (ofK (4:Int)) e).err=(0:Int)))=true then True/\(aa n (List.getD t.parts (Int.toNat (0:Int)) (dfl (Ty.st SN.term))) e).1=(bL (aa n) t e).1/\(ay (aa n) (List.getD (List.drop (Int.toNat (1:Int)) (List.take (Int.toNat (↑(List.length t.parts):Int)) t.parts)) (Int.toNat (↑x:Int)) (dfl (Ty.st SN.term))) (ofK (4:Int)) e).err=(bL (aa n) t e).2.err/\(ay (aa n) (List.getD (List.drop (Int.toNat (1:Int)) (List.take (Int.toNat (↑(List.length t.parts):Int)) t.parts)) (Int.toNat (↑x:Int)) (dfl (Ty.st SN.term))) (ofK (4:Int)) e).pos=(bL (aa n) t e).2.pos/\True else inR IntKind.i64 ((↑x:Int)+(1:Int))/\∃(y:Nat),(y+(1:Nat)<=List.length t.parts/\((aa n (List.getD t.parts (0:Nat) aA) e).1.kind=(4:Int)→cn (aa n) e (ofK (4:Int)) (List.drop (1:Nat) t.parts)=cn (aa n) e (ofK (4:Int)) (List.drop (y+(1:Nat)) t.parts))/\(¬(aa n (List.getD t.parts (0:Nat) aA) e).1.kind=(4:Int)→dB (aa n) e (List.drop (1:Nat) t.parts) (aa n (List.getD t.parts (0:Nat) aA) e).1.parts=dB (aa n) e (List.drop (y+(1:Nat)) t.parts) (List.drop y (aa n (List.getD t.parts (0:Nat) aA) e).1.parts)))/\List.length t.parts - y < List.length t.parts - x/\(↑x:Int)+(1:Int)=(↑y:Int)/\false=false/\t=t/\e=e/\false=false/\decide ((aa n (List.getD t.parts (Int.toNat (0:Int)) (dfl (Ty.st SN.term))) e).1.kind=(4:Int))=decide ((aa n (List.getD t.parts (Int.toNat (0:Int)) (dfl (Ty.st SN.term))) e).1.kind=(4:Int))/\List.drop (Int.toNat (1:Int)) (List.take (Int.toNat (↑(List.length t.parts):Int)) t.parts)=List.drop (Int.toNat (1:Int)) (List.take (Int.toNat (↑(List.length t.parts):Int)) t.parts)/\(↑(List.length (List.drop (Int.toNat (1:Int)) (List.take (Int.toNat (↑(List.length t.parts):Int)) t.parts))):Int)=(↑(List.length (List.drop (Int.toNat (1:Int)) (List.take (Int.toNat (↑(List.length t.parts):Int)) t.parts))):Int)/\t=t/\e=e/\(0:Int)=(0:Int)/\aD UInt8=aD UInt8/\aD UInt8=aD UInt8/\(0:Int)=(0:Int)/\(0:Int)=(0:Int)
  /\(aa n (List.getD t.parts (Int.toNat (0:Int)) (dfl (Ty.st SN.term))) e).1=(aa n (List.getD t.parts (Int.toNat (0:Int)) (dfl (Ty.st SN.term))) e).1/\(aa n (List.getD t.parts (Int.toNat (0:Int)) (dfl (Ty.st SN.term))) e).2.err=(aa n (List.getD t.parts (Int.toNat (0:Int)) (dfl (Ty.st SN.term))) e).2.err/\(aa n (List.getD t.parts (Int.toNat (0:Int)) (dfl (Ty.st SN.term))) e).2.pos=(aa n (List.getD t.parts (Int.toNat (0:Int)) (dfl (Ty.st SN.term))) e).2.pos/\True else if decide ((aa n (List.getD t.parts (Int.toNat (0:Int)) (dfl (Ty.st SN.term))) e).1.kind=(4:Int))=true then True/\(aa n (List.getD t.parts (Int.toNat (0:Int)) (dfl (Ty.st SN.term))) e).1=(bL (aa n) t e).1/\(0:Int)=(bL (aa n) t e).2.err/\(0:Int)=(bL (aa n) t e).2.pos/\True else inR IntKind.i64 ((↑(List.length (aa n (List.getD t.parts (Int.toNat (0:Int)) (dfl (Ty.st SN.term))) e).1.parts):Int) - (1:Int))/\((0:Int)<=(↑(List.length (aa n (List.getD t.parts (Int.toNat (0:Int)) (dfl (Ty.st SN.term))) e).1.parts):Int) - (1:Int)/\(↑(List.length (aa n (List.getD t.parts (Int.toNat (0:Int)) (dfl (Ty.st SN.term))) e).1.parts):Int) - (1:Int) < (↑(List.length (aa n (List.getD t.parts (Int.toNat (0:Int)) (dfl (Ty.st SN.term))) e).1.parts):Int))/\True/\List.getD (aa n (List.getD t.parts (Int.toNat (0:Int)) (dfl (Ty.st SN.term))) e).1.parts (Int.toNat ((↑(List.length (aa n (List.getD t.parts (Int.toNat (0:Int)) (dfl (Ty.st SN.term))) e).1.parts):Int) - (1:Int))) (dfl (Ty.st SN.shape))=(bL (aa n) t e).1/\(0:Int)=(bL (aa n) t e).2.err/\(0:Int)=(bL (aa n) t e).2.pos/\True:=by
 have p0:=rf hz hf hv (dfl (.st .term)) hp (Nat.le_add_right _ _)
 have ln:=ht.term_parts.len
 have hds:List.drop (Int.toNat 1) (List.take t.parts.length t.parts)=t.parts.drop 1:=by rw [List.take_length];rfl
 have hdg:∀k:Nat,(t.parts.drop 1).getD k (dfl (.st .term))=t.parts.getD (k+1) (dfl (.st .term)):=fun k=>by
  rw [List.getD_eq_getElem?_getD,List.getD_eq_getElem?_getD,List.getElem?_drop,Nat.add_comm]
 rw [show t.parts.getD (Int.toNat 0) (dfl (.st .term))=t.parts.getD 0 aA from rfl]
 simp only [Int.toNat_natCast,eq_self,true_and,and_true]
 simp only [hds,hdg,List.length_drop]
 have hC0:¬(aa n (t.parts.getD 0 aA) e).2.err=0→bL (aa n) t e=aa n (t.parts.getD 0 aA) e:=fun h=>by simp only [bL,if_neg h]
 have hC4:(aa n (t.parts.getD 0 aA) e).2.err=0→(aa n (t.parts.getD 0 aA) e).1.kind=4→bL (aa n) t e=if (cn (aa n) e (ofK 4) (t.parts.drop 1)).err=0 then ((aa n (t.parts.getD 0 aA) e).1,cU) else ((aa n (t.parts.getD 0 aA) e).1,cn (aa n) e (ofK 4) (t.parts.drop 1)):=fun h k=>by simp only [bL,if_pos h,if_pos k]
 have hC8:(aa n (t.parts.getD 0 aA) e).2.err=0→¬(aa n (t.parts.getD 0 aA) e).1.kind=4→(aa n (t.parts.getD 0 aA) e).1.kind=8/\(aa n (t.parts.getD 0 aA) e).1.parts.length=t.parts.length→bL (aa n) t e=if (dB (aa n) e (t.parts.drop 1) (aa n (t.parts.getD 0 aA) e).1.parts).err=0 then ((aa n (t.parts.getD 0 aA) e).1.parts.getD ((aa n (t.parts.getD 0 aA) e).1.parts.length - 1) ao,cU) else ((aa n (t.parts.getD 0 aA) e).1,dB (aa n) e (t.parts.drop 1) (aa n (t.parts.getD 0 aA) e).1.parts):=fun h k g=>by simp only [bL,if_pos h,if_neg k,if_pos g]
 have hC9:(aa n (t.parts.getD 0 aA) e).2.err=0→¬(aa n (t.parts.getD 0 aA) e).1.kind=4→¬((aa n (t.parts.getD 0 aA) e).1.kind=8/\(aa n (t.parts.getD 0 aA) e).1.parts.length=t.parts.length)→bL (aa n) t e=((aa n (t.parts.getD 0 aA) e).1,⟨140,t.pos⟩):=fun h k g=>by simp only [bL,if_pos h,if_neg k,if_neg g]
 revert hC0 hC4 hC8 hC9
 generalize bL (aa n) t e=R
 generalize aa n (t.parts.getD 0 aA) e=r
 intro hC0 hC4 hC8 hC9
 have dn:decide ((r.1.parts.length:Int)=(t.parts.length:Int))=decide (r.1.parts.length=t.parts.length):=decide_eq_decide.2 (by omega)
 refine ⟨by omega,p0,ab (fun h=>?_) (fun h=>?_)⟩
 ·rw [hC0 (by simpa using h)];exact ⟨rfl,rfl,rfl⟩
 have h:r.2.err=0:=by simpa using h
 rw [dn]
 refine ⟨?_,ab (fun g=>?_) (fun g=>?_)⟩
 ·cases decide (r.1.kind=4) <;> cases decide (r.1.kind=8) <;> cases decide (r.1.parts.length=t.parts.length) <;> rfl
 ·have g':¬r.1.kind=4/\¬(r.1.kind=8/\r.1.parts.length=t.parts.length):=by
   simp only [Bool.and_eq_true,Bool.or_eq_true,Bool.not_eq_true',decide_eq_false_iff_not] at g
   exact ⟨g.1,fun q=>g.2.elim (fun x=>x q.1) (fun x=>x q.2)⟩
  rw [hC9 h g'.1 g'.2];exact ⟨rfl,rfl,rfl⟩
 have g':¬r.1.kind=4→r.1.kind=8/\r.1.parts.length=t.parts.length:=fun q=>by
  simp only [Bool.and_eq_true,Bool.or_eq_true,Bool.not_eq_true',decide_eq_false_iff_not] at g
  exact ⟨Decidable.byContradiction fun x=>g ⟨q,.inl x⟩,Decidable.byContradiction fun x=>g ⟨q,.inr x⟩⟩
 refine ⟨by omega,⟨0,⟨by omega,fun _=>rfl,fun _=>by rw [List.drop_zero]⟩,rfl⟩,?_⟩
 rintro k ⟨h1,h2,h3⟩
 refine ab (fun c=>?_) (fun c=>?_)
 ·have c:=Xo c
  have hk:k+1 < t.parts.length:=by omega
  have ob:=rf hz hf hv (dfl (.st .term)) hk (Nat.le_add_right _ _)
  rw [aH t.parts (k+1) (dfl (.st .term)) hk] at h2 h3
  refine ⟨by omega,ab (fun k4=>?_) (fun k4=>?_)⟩
  ·have k4:¬r.1.kind=4:=by simpa using k4
   have k8:=g' k4
   have h3:=h3 k4
   rw [aH r.1.parts k (dfl (.st .shape)) (by omega)] at h3
   simp only [dB] at h3
   refine ⟨by omega,ob,ab (fun f=>?_) (fun f=>?_)⟩
   ·have f:¬(ay (aa n) (t.parts.getD (k+1) (dfl (.st .term))) (r.1.parts.getD k (dfl (.st .shape))) e).err=0:=by simpa using f
    rw [if_neg f] at h3
    rw [hC8 h k4 k8,h3,if_neg f]
    exact ⟨rfl,rfl,rfl⟩
   ·have f:(ay (aa n) (t.parts.getD (k+1) (dfl (.st .term))) (r.1.parts.getD k (dfl (.st .shape))) e).err=0:=by simpa using f
    rw [if_pos f] at h3
    exact ⟨bc (by omega) ln,k+1,⟨by omega,fun q=>absurd q k4,fun _=>h3⟩,by omega,by omega⟩
  ·have k4:r.1.kind=4:=by simpa using k4
   have h2:=h2 k4
   simp only [cn] at h2
   refine ⟨ob,ab (fun f=>?_) (fun f=>?_)⟩
   ·have f:¬(ay (aa n) (t.parts.getD (k+1) (dfl (.st .term))) (ofK 4) e).err=0:=by simpa using f
    rw [if_neg f] at h2
    rw [hC4 h k4,h2,if_neg f]
    exact ⟨rfl,rfl,rfl⟩
   ·have f:(ay (aa n) (t.parts.getD (k+1) (dfl (.st .term))) (ofK 4) e).err=0:=by simpa using f
    rw [if_pos f] at h2
    exact ⟨bc (by omega) ln,k+1,⟨by omega,fun _=>h2,fun q=>absurd k4 q⟩,by omega,by omega⟩
 ·have c:¬((k:Int) < ((t.parts.length - 1:Nat):Int)):=fun q=>c (Xd q)
  have hk:k+1=t.parts.length:=by omega
  rw [hk,List.drop_length] at h2 h3
  refine ab (fun k4=>?_) (fun k4=>?_)
  ·have k4:r.1.kind=4:=Xo k4
   rw [hC4 h k4,h2 k4]
   exact ⟨rfl,rfl,rfl⟩
  ·have k4:¬r.1.kind=4:=fun q=>k4 (Xd q)
   have k8:=g' k4
   have h3:=h3 k4
   simp only [dB] at h3
   have ei:((r.1.parts.length:Int) - 1).toNat=r.1.parts.length - 1:=by omega
   rw [hC8 h k4 k8,h3,ei]
   exact ⟨bF (by omega) (by omega),by omega,rfl,rfl,rfl⟩
theorem Cf (n:Nat) (t:Trm) (e:Envt) (ht:Wf (.st .term) t) (he:Wf (.st .env) e) (hp:0 < t.parts.length) (hz:szT t<=n+1) (hf:allT aj t=true) (hv:e.values.length+4096 *szT t<=100000000) :
  inR IntKind.i64 ((↑(List.length e.own):Int) - (1:Int))/\(∃(x:Nat × Option Shape),(x.1<=List.length e.own/\(x.2=none→cK e.own t.name=cK (List.take x.1 e.own) t.name)/\∀(s:Shape),x.2=some s→cK e.own t.name=some s)/\(↑(List.length e.own):Int) - (1:Int)=(↑x.1:Int) - (1:Int)/\false=Option.isSome x.2/\t=t/\e=e/\(0:Int)=(Option.elim x.2 ao aW).kind/\[]=(Option.elim x.2 ao aW).pkg/\[]=(Option.elim x.2 ao aW).name/\(Option.elim x.2 ao aW).names=[]/\(Option.elim x.2 ao aW).parts=[]/\t=t/\e=e/\(0:Int)=(0:Int)/\aD UInt8=aD UInt8/\aD UInt8=aD UInt8/\(0:Int)=(0:Int)/\(0:Int)=(0:Int)/\True)/\∀(x:Nat × Option Shape),(x.1<=List.length e.own/\(x.2=none→cK e.own t.name=cK (List.take x.1 e.own) t.name)/\∀(s:Shape),x.2=some s→cK e.own t.name=some s)→if decide ((0:Int)<=(↑x.1:Int) - (1:Int))=true then if (!Option.isSome x.2)=true then ((0:Int)<=(↑x.1:Int) - (1:Int)/\(↑x.1:Int) - (1:Int) < (↑(List.length e.own):Int))/\if decide ((List.getD e.own (Int.toNat ((↑x.1:Int) - (1:Int))) (dfl (Ty.st SN.bind))).name=t.name)=true then ((0:Int)<=(↑x.1:Int) - (1:Int)/\(↑x.1:Int) - (1:Int) < (↑(List.length e.own):Int))/\inR IntKind.i64 ((↑x.1:Int) - (1:Int) - (1:Int))/\∃(y:Nat × Option Shape),(y.1<=List.length e.own/\(y.2=none→cK e.own t.name=cK (List.take y.1 e.own) t.name)/\∀(s:Shape),y.2=some s→cK e.own t.name=some s)/\y.1 < x.1/\(↑x.1:Int) - (1:Int) - (1:Int)=(↑y.1:Int) - (1:Int)/\true=Option.isSome y.2/\t=t/\e=e/\aW (List.getD e.own (Int.toNat ((↑x.1:Int) - (1:Int))) (dfl (Ty.st SN.bind))).shape=Option.elim y.2 ao aW/\t=t/\e=e/\(0:Int)=(0:Int)/\aD UInt8=aD UInt8/\aD UInt8=aD UInt8/\(0:Int)=(0:Int)/\(0:Int)=(0:Int)/\True else inR IntKind.i64 ((↑x.1:Int) - (1:Int) - (1:Int))/\∃(y:Nat × Option Shape),(y.1<=List.length e.own/\(y.2=none→cK e.own t.name=cK (List.take y.1 e.own) t.name)/\∀(s:Shape),y.2=some s→cK e.own t.name=some s)/\y.1 < x.1/\(↑x.1:Int) - (1:Int) - (1:Int)=(↑y.1:Int) - (1:Int)/\Option.isSome x.2=Option.isSome y.2/\t=t/\e=e/\Option.elim x.2 ao aW=Option.elim y.2 ao aW/\t=t/\e=e/\(0:Int)=(0:Int)/\aD UInt8=aD UInt8/\aD UInt8=aD UInt8/\(0:Int)=(0:Int)/\(0:Int)=(0:Int)/\True else if (!Option.isSome x.2)=true then True/\Option.elim x.2 ao aW=(cA (aa n) t e).1/\(110:Int)=(cA (aa n) t e).2.err/\t.pos=(cA (aa n) t e).2.pos/\True else if decide (t.kind=(17:Int))=true then ((0:Int)<=(0:Int)/\(0:Int) < (↑(List.length t.parts):Int))/\(szT (List.getD t.parts (Int.toNat (0:Int)) (dfl (Ty.st SN.term)))<=n/\allT aj (List.getD t.parts (Int.toNat (0:Int)) (dfl (Ty.st SN.term)))=true/\List.length e.values+(4096:Nat) *szT (List.getD t.parts (Int.toNat (0:Int)) (dfl (Ty.st SN.term)))<=(100000000:Nat))/\True/\Option.elim x.2 ao aW=(cA (aa n) t e).1/\(ay (aa n) (List.getD t.parts (Int.toNat (0:Int)) (dfl (Ty.st SN.term))) {kind:=(10:Int),pkg:=e.self,name:=t.name,names:=[],parts:=[]:Shape} e).err=(cA (aa n) t e).2.err/\(ay (aa n) (List.getD t.parts (Int.toNat (0:Int)) (dfl (Ty.st SN.term))) {kind:=(10:Int),pkg:=e.self,name:=t.name,names:=[],parts:=[]:Shape} e).pos=(cA (aa n) t e).2.pos/\True else ((0:Int)<=(0:Int)/\(0:Int) < (↑(List.length t.parts):Int))/\(szT (List.getD t.parts (Int.toNat (0:Int)) (dfl (Ty.st SN.term)))<=n/\allT aj (List.getD t.parts (Int.toNat (0:Int)) (dfl (Ty.st SN.term)))=true
  /\List.length e.values+(4096:Nat) *szT (List.getD t.parts (Int.toNat (0:Int)) (dfl (Ty.st SN.term)))<=(100000000:Nat))/\True/\(10:Int)=(cA (aa n) t e).1.kind/\e.self=(cA (aa n) t e).1.pkg/\t.name=(cA (aa n) t e).1.name/\(cA (aa n) t e).1.names=[]/\(cA (aa n) t e).1.parts=[]/\(ay (aa n) (List.getD t.parts (Int.toNat (0:Int)) (dfl (Ty.st SN.term))) (Option.elim x.2 ao aW) e).err=(cA (aa n) t e).2.err/\(ay (aa n) (List.getD t.parts (Int.toNat (0:Int)) (dfl (Ty.st SN.term))) (Option.elim x.2 ao aW) e).pos=(cA (aa n) t e).2.pos/\True else if (!Option.isSome x.2)=true then True/\Option.elim x.2 ao aW=(cA (aa n) t e).1/\(110:Int)=(cA (aa n) t e).2.err/\t.pos=(cA (aa n) t e).2.pos/\True else if decide (t.kind=(17:Int))=true then ((0:Int)<=(0:Int)/\(0:Int) < (↑(List.length t.parts):Int))/\(szT (List.getD t.parts (Int.toNat (0:Int)) (dfl (Ty.st SN.term)))<=n/\allT aj (List.getD t.parts (Int.toNat (0:Int)) (dfl (Ty.st SN.term)))=true/\List.length e.values+(4096:Nat) *szT (List.getD t.parts (Int.toNat (0:Int)) (dfl (Ty.st SN.term)))<=(100000000:Nat))/\True/\Option.elim x.2 ao aW=(cA (aa n) t e).1/\(ay (aa n) (List.getD t.parts (Int.toNat (0:Int)) (dfl (Ty.st SN.term))) {kind:=(10:Int),pkg:=e.self,name:=t.name,names:=[],parts:=[]:Shape} e).err=(cA (aa n) t e).2.err/\(ay (aa n) (List.getD t.parts (Int.toNat (0:Int)) (dfl (Ty.st SN.term))) {kind:=(10:Int),pkg:=e.self,name:=t.name,names:=[],parts:=[]:Shape} e).pos=(cA (aa n) t e).2.pos/\True else ((0:Int)<=(0:Int)/\(0:Int) < (↑(List.length t.parts):Int))/\(szT (List.getD t.parts (Int.toNat (0:Int)) (dfl (Ty.st SN.term)))<=n/\allT aj (List.getD t.parts (Int.toNat (0:Int)) (dfl (Ty.st SN.term)))=true/\List.length e.values+(4096:Nat) *szT (List.getD t.parts (Int.toNat (0:Int)) (dfl (Ty.st SN.term)))<=(100000000:Nat))/\True/\(10:Int)=(cA (aa n) t e).1.kind/\e.self=(cA (aa n) t e).1.pkg/\t.name=(cA (aa n) t e).1.name/\(cA (aa n) t e).1.names=[]/\(cA (aa n) t e).1.parts=[]/\(ay (aa n) (List.getD t.parts (Int.toNat (0:Int)) (dfl (Ty.st SN.term))) (Option.elim x.2 ao aW) e).err=(cA (aa n) t e).2.err/\(ay (aa n) (List.getD t.parts (Int.toNat (0:Int)) (dfl (Ty.st SN.term))) (Option.elim x.2 ao aW) e).pos=(cA (aa n) t e).2.pos/\True:=by
 have ln:e.own.length<=9223372036854775807:=he.env_own.len
 have p0:=ow (dfl (.st .term)) hz hf hp
 have q0:e.values.length+4096 *szT (t.parts.getD (Int.toNat 0) (dfl (.st .term)))<=100000000:=by rw [show Int.toNat 0=0 from rfl];have:=p0.2.2;omega
 simp only [eq_self,true_and,and_true]
 refine ⟨bF (by omega) (by omega),⟨(e.own.length,none),⟨Nat.le_refl _,fun _=>by rw [List.take_length],fun s h=>nomatch h⟩,rfl,rfl,rfl,rfl,rfl,rfl,rfl⟩,?_⟩
 rintro ⟨x,o⟩ ⟨h1,h2,h3⟩
 dsimp only at h1 h2 h3 ⊢
 refine ab (fun h=>ab (fun ho=>?_) (fun ho=>?_)) (fun h=>?_)
 ·have h:=Xo h
  obtain rfl:o=none:=by cases o with | none=>rfl | some s=>exact absurd ho Bool.false_ne_true
  obtain ⟨k,rfl⟩:∃k,x=k+1:=⟨x - 1,by omega⟩
  have e1:(((k+1:Nat):Int) - 1)=(k:Int):=by omega
  have h2:=h2 rfl
  rw [vt e.own t.name (dfl (.st .bind)) (by omega)] at h2
  simp only [e1,Int.toNat_natCast]
  refine ⟨by omega,ab (fun c=>?_) (fun c=>?_)⟩
  ·rw [if_pos (Xo c)] at h2
   exact ⟨by omega,bF (by omega) (by omega),(k,some (e.own.getD k (dfl (.st .bind))).shape),⟨by dsimp only;omega,fun g=>(by cases g),fun s g=>(by cases g;exact h2)⟩,by dsimp only;omega,rfl,rfl,rfl⟩
  ·rw [if_neg (fun g=>c (Xd g))] at h2
   exact ⟨bF (by omega) (by omega),(k,none),⟨by dsimp only;omega,fun _=>h2,fun s g=>(by cases g)⟩,by dsimp only;omega,rfl,rfl,rfl⟩
 ·have ho:o=cK e.own t.name:=by
   cases o with
   | none=>exact absurd rfl ho
   | some s=>exact (h3 s rfl).symm
  cases o with
  | none=>rw [jr ho.symm];exact ab (fun _=>⟨rfl,rfl,rfl⟩) (fun c=>absurd rfl c)
  | some s=>
   rw [js ho.symm]
   refine ab (fun c=>absurd c Bool.false_ne_true) (fun _=>ab (fun c=>?_) (fun c=>?_))
   ·rw [if_pos (Xo c)]
    exact ⟨by omega,⟨p0.1,p0.2.1,q0⟩,rfl,rfl,rfl⟩
   ·rw [if_neg (fun g=>c (Xd g))]
    exact ⟨by omega,⟨p0.1,p0.2.1,q0⟩,rfl,rfl,rfl,rfl,rfl,rfl,rfl⟩
 ·have h:¬(0:Int)<=(x:Int) - 1:=fun g=>h (Xd g)
  obtain rfl:x=0:=by omega
  have ho:o=cK e.own t.name:=by
   cases o with
   | none=>exact (h2 rfl).symm
   | some s=>exact (h3 s rfl).symm
  cases o with
  | none=>rw [jr ho.symm];exact ab (fun _=>⟨rfl,rfl,rfl⟩) (fun c=>absurd rfl c)
  | some s=>
   rw [js ho.symm]
   refine ab (fun c=>absurd c Bool.false_ne_true) (fun _=>ab (fun c=>?_) (fun c=>?_))
   ·rw [if_pos (Xo c)]
    exact ⟨by omega,⟨p0.1,p0.2.1,q0⟩,rfl,rfl,rfl⟩
   ·rw [if_neg (fun g=>c (Xd g))]
    exact ⟨by omega,⟨p0.1,p0.2.1,q0⟩,rfl,rfl,rfl,rfl,rfl,rfl,rfl⟩
theorem yV (n:Nat) (t:Trm) (e:Envt) (ht:Wf (.st .term) t) (he:Wf (.st .env) e) (hk:t.kind=6∨t.kind=11∨t.kind=12∨t.kind=13∨t.kind=15) (hz:szT t<=n+1) (hf:allT aj t=true) (hv:e.values.length+4096 *szT t<=100000000) :
  List.length t.shapes<=(1000000:Nat)/\if (!decide ((ae e.types t.pos t.shapes).2.err=(0:Int)))=true then True/\(0:Int)=(aC (aa n) t e).1.kind/\[]=(aC (aa n) t e).1.pkg/\[]=(aC (aa n) t e).1.name/\(aC (aa n) t e).1.names=[]/\(aC (aa n) t e).1.parts=[]/\(ae e.types t.pos t.shapes).2.err=(aC (aa n) t e).2.err/\(ae e.types t.pos t.shapes).2.pos=(aC (aa n) t e).2.pos/\True else inR IntKind.i64 ((↑(List.length (ae e.types t.pos t.shapes).1):Int) - (1:Int))/\if decide (t.kind=(6:Int))=true then (∃(x:Nat × Envt),(x.1<=List.length t.names/\List.length x.2.values=List.length e.values+x.1/\bq x.2 (dM (List.drop x.1 t.names) (List.drop x.1 (ae e.types t.pos t.shapes).1))=bq e (dM t.names (ae e.types t.pos t.shapes).1))/\(0:Int)=(↑x.1:Int)/\t=t/\e=e/\(ae e.types t.pos t.shapes).1=(ae e.types t.pos t.shapes).1/\false=false/\(↑(List.length (ae e.types t.pos t.shapes).1):Int) - (1:Int)=(↑(List.length (ae e.types t.pos t.shapes).1):Int) - (1:Int)/\t.kind=t.kind/\true=true/\t.names=t.names/\(↑(List.length t.names):Int)=(↑(List.length t.names):Int)/\e=x.2/\t=t/\(0:Int)=(0:Int)/\aD UInt8=aD UInt8/\aD UInt8=aD UInt8/\(0:Int)=(0:Int)/\(0:Int)=(0:Int)/\List.length (ae e.types t.pos t.shapes).1=List.length (ae e.types t.pos t.shapes).1/\(ae e.types t.pos t.shapes).2.err=(ae e.types t.pos t.shapes).2.err/\(ae e.types t.pos t.shapes).2.pos=(ae e.types t.pos t.shapes).2.pos/\True)/\∀(x:Nat × Envt),x.1<=List.length t.names/\List.length x.2.values=List.length e.values+x.1/\bq x.2 (dM (List.drop x.1 t.names) (List.drop x.1 (ae e.types t.pos t.shapes).1))=bq e (dM t.names (ae e.types t.pos t.shapes).1)→if decide ((↑x.1:Int) < (↑(List.length t.names):Int))=true then ((0:Int)<=(↑x.1:Int)/\(↑x.1:Int) < (↑(List.length t.names):Int))/\((0:Int)<=(↑x.1:Int)/\(↑x.1:Int) < (↑(List.length (ae e.types t.pos t.shapes).1):Int))/\(List.length x.2.values<=(1000000000:Nat)/\List.length [{pkg:=[],name:=List.getD t.names (Int.toNat (↑x.1:Int)) (dfl Ty.str),shape:=AL.Shape.mk ((List.getD (ae e.types t.pos t.shapes).1 (Int.toNat (↑x.1:Int)) (dfl (Ty.st SN.shape))).kind) ((List.getD (ae e.types t.pos t.shapes).1 (Int.toNat (↑x.1:Int)) (dfl (Ty.st SN.shape))).pkg) ((List.getD (ae e.types t.pos t.shapes).1 (Int.toNat (↑x.1:Int)) (dfl (Ty.st SN.shape))).name) ((List.getD (ae e.types t.pos t.shapes).1 (Int.toNat (↑x.1:Int)) (dfl (Ty.st SN.shape))).names) ((List.getD (ae e.types t.pos t.shapes).1 (Int.toNat (↑x.1:Int)) (dfl (Ty.st SN.shape))).parts):Bndg}]<=(1000:Nat))/\inR IntKind.i64 ((↑x.1:Int)+(1:Int))/\∃(y:Nat × Envt),(y.1<=List.length t.names/\List.length y.2.values=List.length e.values+y.1/\bq y.2 (dM (List.drop y.1 t.names) (List.drop y.1 (ae e.types t.pos t.shapes).1))=bq e (dM t.names (ae e.types t.pos t.shapes).1))/\List.length t.names - y.1 < List.length t.names - x.1/\(↑x.1:Int)+(1:Int)=(↑y.1:Int)/\t=t/\e=e/\(ae e.types t.pos t.shapes).1=(ae e.types t.pos t.shapes).1/\false=false/\(↑(List.length (ae e.types t.pos t.shapes).1):Int) - (1:Int)=(↑(List.length (ae e.types t.pos t.shapes).1):Int) - (1:Int)/\t.kind=t.kind/\true=true/\t.names=t.names/\(↑(List.length t.names):Int)=(↑(List.length t.names):Int)
  /\bq x.2 [{pkg:=[],name:=List.getD t.names (Int.toNat (↑x.1:Int)) (dfl Ty.str),shape:=AL.Shape.mk ((List.getD (ae e.types t.pos t.shapes).1 (Int.toNat (↑x.1:Int)) (dfl (Ty.st SN.shape))).kind) ((List.getD (ae e.types t.pos t.shapes).1 (Int.toNat (↑x.1:Int)) (dfl (Ty.st SN.shape))).pkg) ((List.getD (ae e.types t.pos t.shapes).1 (Int.toNat (↑x.1:Int)) (dfl (Ty.st SN.shape))).name) ((List.getD (ae e.types t.pos t.shapes).1 (Int.toNat (↑x.1:Int)) (dfl (Ty.st SN.shape))).names) ((List.getD (ae e.types t.pos t.shapes).1 (Int.toNat (↑x.1:Int)) (dfl (Ty.st SN.shape))).parts):Bndg}]=y.2/\t=t/\(0:Int)=(0:Int)/\aD UInt8=aD UInt8/\aD UInt8=aD UInt8/\(0:Int)=(0:Int)/\(0:Int)=(0:Int)/\List.length (ae e.types t.pos t.shapes).1=List.length (ae e.types t.pos t.shapes).1/\(ae e.types t.pos t.shapes).2.err=(ae e.types t.pos t.shapes).2.err/\(ae e.types t.pos t.shapes).2.pos=(ae e.types t.pos t.shapes).2.pos/\True else ((0:Int)<=(0:Int)/\(0:Int) < (↑(List.length t.parts):Int))/\(szT (List.getD t.parts (Int.toNat (0:Int)) (dfl (Ty.st SN.term)))<=n/\allT aj (List.getD t.parts (Int.toNat (0:Int)) (dfl (Ty.st SN.term)))=true/\List.length x.2.values+(4096:Nat) *szT (List.getD t.parts (Int.toNat (0:Int)) (dfl (Ty.st SN.term)))<=(100000000:Nat))/\(List.length (ae e.types t.pos t.shapes).1=List.length (ae e.types t.pos t.shapes).1/\(List.length (ae e.types t.pos t.shapes).1+List.length [(aa n (List.getD t.parts (Int.toNat (0:Int)) (dfl (Ty.st SN.term))) x.2).1]) *(88:Nat)<=(140737488355328:Nat))/\True/\(8:Int)=(aC (aa n) t e).1.kind/\[]=(aC (aa n) t e).1.pkg/\[]=(aC (aa n) t e).1.name/\(aC (aa n) t e).1.names=[]/\(ae e.types t.pos t.shapes).1++[(aa n (List.getD t.parts (Int.toNat (0:Int)) (dfl (Ty.st SN.term))) x.2).1]=(aC (aa n) t e).1.parts/\(aa n (List.getD t.parts (Int.toNat (0:Int)) (dfl (Ty.st SN.term))) x.2).2.err=(aC (aa n) t e).2.err/\(aa n (List.getD t.parts (Int.toNat (0:Int)) (dfl (Ty.st SN.term))) x.2).2.pos=(aC (aa n) t e).2.pos/\True else if decide (t.kind=(11:Int))=true then (∃(x:Nat),(x<=List.length t.parts/\cn (aa n) e (List.getD (ae e.types t.pos t.shapes).1 (0:Nat) ao) (List.drop x t.parts)=cn (aa n) e (List.getD (ae e.types t.pos t.shapes).1 (0:Nat) ao) t.parts)/\(0:Int)=(↑x:Int)/\t=t/\e=e/\(ae e.types t.pos t.shapes).1=(ae e.types t.pos t.shapes).1/\false=false/\(↑(List.length (ae e.types t.pos t.shapes).1):Int) - (1:Int)=(↑(List.length (ae e.types t.pos t.shapes).1):Int) - (1:Int)/\t.kind=t.kind/\false=false/\true=true/\t.parts=t.parts/\(↑(List.length t.parts):Int)=(↑(List.length t.parts):Int)/\t=t/\e=e/\(0:Int)=(0:Int)/\aD UInt8=aD UInt8/\aD UInt8=aD UInt8/\(0:Int)=(0:Int)/\(0:Int)=(0:Int)/\List.length (ae e.types t.pos t.shapes).1=List.length (ae e.types t.pos t.shapes).1/\(ae e.types t.pos t.shapes).2.err=(ae e.types t.pos t.shapes).2.err/\(ae e.types t.pos t.shapes).2.pos=(ae e.types t.pos t.shapes).2.pos/\True)/\∀(x:Nat),x<=List.length t.parts/\cn (aa n) e (List.getD (ae e.types t.pos t.shapes).1 (0:Nat) ao) (List.drop x t.parts)=cn (aa n) e (List.getD (ae e.types t.pos t.shapes).1 (0:Nat) ao) t.parts→if decide ((↑x:Int) < (↑(List.length t.parts):Int))=true then ((0:Int)<=(↑x:Int)/\(↑x:Int) < (↑(List.length t.parts):Int))/\((0:Int)<=(0:Int)/\(0:Int) < (↑(List.length (ae e.types t.pos t.shapes).1):Int))/\(szT (List.getD t.parts (Int.toNat (↑x:Int)) (dfl (Ty.st SN.term)))<=n
  /\allT aj (List.getD t.parts (Int.toNat (↑x:Int)) (dfl (Ty.st SN.term)))=true/\List.length e.values+(4096:Nat) *szT (List.getD t.parts (Int.toNat (↑x:Int)) (dfl (Ty.st SN.term)))<=(100000000:Nat))/\if (!decide ((ay (aa n) (List.getD t.parts (Int.toNat (↑x:Int)) (dfl (Ty.st SN.term))) (List.getD (ae e.types t.pos t.shapes).1 (Int.toNat (0:Int)) (dfl (Ty.st SN.shape))) e).err=(0:Int)))=true then ((0:Int)<=(0:Int)/\(0:Int) < (↑(List.length (ae e.types t.pos t.shapes).1):Int))/\True/\List.getD (ae e.types t.pos t.shapes).1 (Int.toNat (0:Int)) (dfl (Ty.st SN.shape))=(aC (aa n) t e).1/\(ay (aa n) (List.getD t.parts (Int.toNat (↑x:Int)) (dfl (Ty.st SN.term))) (List.getD (ae e.types t.pos t.shapes).1 (Int.toNat (0:Int)) (dfl (Ty.st SN.shape))) e).err=(aC (aa n) t e).2.err/\(ay (aa n) (List.getD t.parts (Int.toNat (↑x:Int)) (dfl (Ty.st SN.term))) (List.getD (ae e.types t.pos t.shapes).1 (Int.toNat (0:Int)) (dfl (Ty.st SN.shape))) e).pos=(aC (aa n) t e).2.pos/\True else inR IntKind.i64 ((↑x:Int)+(1:Int))/\∃(y:Nat),(y<=List.length t.parts/\cn (aa n) e (List.getD (ae e.types t.pos t.shapes).1 (0:Nat) ao) (List.drop y t.parts)=cn (aa n) e (List.getD (ae e.types t.pos t.shapes).1 (0:Nat) ao) t.parts)/\List.length t.parts - y < List.length t.parts - x/\(↑x:Int)+(1:Int)=(↑y:Int)/\t=t/\e=e/\(ae e.types t.pos t.shapes).1=(ae e.types t.pos t.shapes).1/\false=false/\(↑(List.length (ae e.types t.pos t.shapes).1):Int) - (1:Int)=(↑(List.length (ae e.types t.pos t.shapes).1):Int) - (1:Int)/\t.kind=t.kind/\false=false/\true=true/\t.parts=t.parts/\(↑(List.length t.parts):Int)=(↑(List.length t.parts):Int)/\t=t/\e=e/\(0:Int)=(0:Int)/\aD UInt8=aD UInt8/\aD UInt8=aD UInt8/\(0:Int)=(0:Int)/\(0:Int)=(0:Int)/\List.length (ae e.types t.pos t.shapes).1=List.length (ae e.types t.pos t.shapes).1/\(ae e.types t.pos t.shapes).2.err=(ae e.types t.pos t.shapes).2.err/\(ae e.types t.pos t.shapes).2.pos=(ae e.types t.pos t.shapes).2.pos/\True else True/\(5:Int)=(aC (aa n) t e).1.kind/\[]=(aC (aa n) t e).1.pkg/\[]=(aC (aa n) t e).1.name/\(aC (aa n) t e).1.names=[]/\(ae e.types t.pos t.shapes).1=(aC (aa n) t e).1.parts/\(0:Int)=(aC (aa n) t e).2.err/\(0:Int)=(aC (aa n) t e).2.pos/\True else if decide (t.kind=(15:Int))=true then ((0:Int)<=(0:Int)/\(0:Int) < (↑(List.length (ae e.types t.pos t.shapes).1):Int))/\((0:Int)<=(0:Int)/\(0:Int) < (↑(List.length t.parts):Int))/\((0:Int)<=(0:Int)/\(0:Int) < (↑(List.length (ae e.types t.pos t.shapes).1):Int))/\(szT (List.getD t.parts (Int.toNat (0:Int)) (dfl (Ty.st SN.term)))<=n/\allT aj (List.getD t.parts (Int.toNat (0:Int)) (dfl (Ty.st SN.term)))=true/\List.length e.values+(4096:Nat) *szT (List.getD t.parts (Int.toNat (0:Int)) (dfl (Ty.st SN.term)))<=(100000000:Nat))/\True/\List.getD (ae e.types t.pos t.shapes).1 (Int.toNat (0:Int)) (dfl (Ty.st SN.shape))=(aC (aa n) t e).1/\(ay (aa n) (List.getD t.parts (Int.toNat (0:Int)) (dfl (Ty.st SN.term))) (List.getD (ae e.types t.pos t.shapes).1 (Int.toNat (0:Int)) (dfl (Ty.st SN.shape))) e).err=(aC (aa n) t e).2.err/\(ay (aa n) (List.getD t.parts (Int.toNat (0:Int)) (dfl (Ty.st SN.term))) (List.getD (ae e.types t.pos t.shapes).1 (Int.toNat (0:Int)) (dfl (Ty.st SN.shape))) e).pos=(aC (aa n) t e).2.pos/\True else if decide (t.kind=(12:Int))=true then ((0:Int)<=(0:Int)/\(0:Int) < (↑(List.length t.parts):Int))
  /\(szT (List.getD t.parts (Int.toNat (0:Int)) (dfl (Ty.st SN.term)))<=n/\allT aj (List.getD t.parts (Int.toNat (0:Int)) (dfl (Ty.st SN.term)))=true/\List.length e.values+(4096:Nat) *szT (List.getD t.parts (Int.toNat (0:Int)) (dfl (Ty.st SN.term)))<=(100000000:Nat))/\if (!decide ((ay (aa n) (List.getD t.parts (Int.toNat (0:Int)) (dfl (Ty.st SN.term))) (ofK (2:Int)) e).err=(0:Int)))=true then ((0:Int)<=(0:Int)/\(0:Int) < (↑(List.length (ae e.types t.pos t.shapes).1):Int))/\True/\List.getD (ae e.types t.pos t.shapes).1 (Int.toNat (0:Int)) (dfl (Ty.st SN.shape))=(aC (aa n) t e).1/\(ay (aa n) (List.getD t.parts (Int.toNat (0:Int)) (dfl (Ty.st SN.term))) (ofK (2:Int)) e).err=(aC (aa n) t e).2.err/\(ay (aa n) (List.getD t.parts (Int.toNat (0:Int)) (dfl (Ty.st SN.term))) (ofK (2:Int)) e).pos=(aC (aa n) t e).2.pos/\True else ((0:Int)<=(1:Int)/\(1:Int) < (↑(List.length t.parts):Int))/\((0:Int)<=(0:Int)/\(0:Int) < (↑(List.length (ae e.types t.pos t.shapes).1):Int))/\(szT (List.getD t.parts (Int.toNat (1:Int)) (dfl (Ty.st SN.term)))<=n/\allT aj (List.getD t.parts (Int.toNat (1:Int)) (dfl (Ty.st SN.term)))=true/\List.length e.values+(4096:Nat) *szT (List.getD t.parts (Int.toNat (1:Int)) (dfl (Ty.st SN.term)))<=(100000000:Nat))/\if (!decide ((ay (aa n) (List.getD t.parts (Int.toNat (1:Int)) (dfl (Ty.st SN.term))) (List.getD (ae e.types t.pos t.shapes).1 (Int.toNat (0:Int)) (dfl (Ty.st SN.shape))) e).err=(0:Int)))=true then ((0:Int)<=(0:Int)/\(0:Int) < (↑(List.length (ae e.types t.pos t.shapes).1):Int))/\True/\List.getD (ae e.types t.pos t.shapes).1 (Int.toNat (0:Int)) (dfl (Ty.st SN.shape))=(aC (aa n) t e).1/\(ay (aa n) (List.getD t.parts (Int.toNat (1:Int)) (dfl (Ty.st SN.term))) (List.getD (ae e.types t.pos t.shapes).1 (Int.toNat (0:Int)) (dfl (Ty.st SN.shape))) e).err=(aC (aa n) t e).2.err/\(ay (aa n) (List.getD t.parts (Int.toNat (1:Int)) (dfl (Ty.st SN.term))) (List.getD (ae e.types t.pos t.shapes).1 (Int.toNat (0:Int)) (dfl (Ty.st SN.shape))) e).pos=(aC (aa n) t e).2.pos/\True else ((0:Int)<=(0:Int)/\(0:Int) < (↑(List.length (ae e.types t.pos t.shapes).1):Int))/\((0:Int)<=(2:Int)/\(2:Int) < (↑(List.length t.parts):Int))/\((0:Int)<=(0:Int)/\(0:Int) < (↑(List.length (ae e.types t.pos t.shapes).1):Int))/\(szT (List.getD t.parts (Int.toNat (2:Int)) (dfl (Ty.st SN.term)))<=n/\allT aj (List.getD t.parts (Int.toNat (2:Int)) (dfl (Ty.st SN.term)))=true/\List.length e.values+(4096:Nat) *szT (List.getD t.parts (Int.toNat (2:Int)) (dfl (Ty.st SN.term)))<=(100000000:Nat))/\True/\List.getD (ae e.types t.pos t.shapes).1 (Int.toNat (0:Int)) (dfl (Ty.st SN.shape))=(aC (aa n) t e).1/\(ay (aa n) (List.getD t.parts (Int.toNat (2:Int)) (dfl (Ty.st SN.term))) (List.getD (ae e.types t.pos t.shapes).1 (Int.toNat (0:Int)) (dfl (Ty.st SN.shape))) e).err=(aC (aa n) t e).2.err/\(ay (aa n) (List.getD t.parts (Int.toNat (2:Int)) (dfl (Ty.st SN.term))) (List.getD (ae e.types t.pos t.shapes).1 (Int.toNat (0:Int)) (dfl (Ty.st SN.shape))) e).pos=(aC (aa n) t e).2.pos/\True else ((0:Int)<=(0:Int)/\(0:Int) < (↑(List.length t.parts):Int))/\((0:Int)<=(0:Int)/\(0:Int)<=(↑(List.length (ae e.types t.pos t.shapes).1):Int) - (1:Int)/\(↑(List.length (ae e.types t.pos t.shapes).1):Int) - (1:Int)<=(↑(List.length (ae e.types t.pos t.shapes).1):Int))/\(szT (List.getD t.parts (Int.toNat (0:Int)) (dfl (Ty.st SN.term)))<=n/\allT aj (List.getD t.parts (Int.toNat (0:Int)) (dfl (Ty.st SN.term)))=true
  /\List.length e.values+(4096:Nat) *szT (List.getD t.parts (Int.toNat (0:Int)) (dfl (Ty.st SN.term)))<=(100000000:Nat))/\if (!decide ((ay (aa n) (List.getD t.parts (Int.toNat (0:Int)) (dfl (Ty.st SN.term))) {kind:=(7:Int),pkg:=[],name:=[],names:=t.names,parts:=List.drop (Int.toNat (0:Int)) (List.take (Int.toNat ((↑(List.length (ae e.types t.pos t.shapes).1):Int) - (1:Int))) (ae e.types t.pos t.shapes).1):Shape} e).err=(0:Int)))=true then ((0:Int)<=(↑(List.length (ae e.types t.pos t.shapes).1):Int) - (1:Int)/\(↑(List.length (ae e.types t.pos t.shapes).1):Int) - (1:Int) < (↑(List.length (ae e.types t.pos t.shapes).1):Int))/\True/\List.getD (ae e.types t.pos t.shapes).1 (Int.toNat ((↑(List.length (ae e.types t.pos t.shapes).1):Int) - (1:Int))) (dfl (Ty.st SN.shape))=(aC (aa n) t e).1/\(ay (aa n) (List.getD t.parts (Int.toNat (0:Int)) (dfl (Ty.st SN.term))) {kind:=(7:Int),pkg:=[],name:=[],names:=t.names,parts:=List.drop (Int.toNat (0:Int)) (List.take (Int.toNat ((↑(List.length (ae e.types t.pos t.shapes).1):Int) - (1:Int))) (ae e.types t.pos t.shapes).1):Shape} e).err=(aC (aa n) t e).2.err/\(ay (aa n) (List.getD t.parts (Int.toNat (0:Int)) (dfl (Ty.st SN.term))) {kind:=(7:Int),pkg:=[],name:=[],names:=t.names,parts:=List.drop (Int.toNat (0:Int)) (List.take (Int.toNat ((↑(List.length (ae e.types t.pos t.shapes).1):Int) - (1:Int))) (ae e.types t.pos t.shapes).1):Shape} e).pos=(aC (aa n) t e).2.pos/\True else ((0:Int)<=(1:Int)/\(1:Int)<=(↑(List.length t.parts):Int)/\(↑(List.length t.parts):Int)<=(↑(List.length t.parts):Int))/\(∃(x:Nat × Flt),(x.1+(1:Nat)<=List.length t.parts/\x.2.err=(0:Int)/\x.2.pos=(0:Int)/\ez (aa n) e (List.getD (ae e.types t.pos t.shapes).1 (List.length (ae e.types t.pos t.shapes).1 - (1:Nat)) ao) (List.drop (x.1+(1:Nat)) t.parts) (List.drop x.1 t.vars) (List.drop x.1 (ae e.types t.pos t.shapes).1)=ez (aa n) e (List.getD (ae e.types t.pos t.shapes).1 (List.length (ae e.types t.pos t.shapes).1 - (1:Nat)) ao) (List.drop (1:Nat) t.parts) t.vars (ae e.types t.pos t.shapes).1)/\(0:Int)=(↑x.1:Int)/\t=t/\e=e/\(ae e.types t.pos t.shapes).1=(ae e.types t.pos t.shapes).1/\false=false/\(↑(List.length (ae e.types t.pos t.shapes).1):Int) - (1:Int)=(↑(List.length (ae e.types t.pos t.shapes).1):Int) - (1:Int)/\t.kind=t.kind/\false=false/\false=false/\false=false/\false=false/\false=false/\List.drop (Int.toNat (1:Int)) (List.take (Int.toNat (↑(List.length t.parts):Int)) t.parts)=List.drop (Int.toNat (1:Int)) (List.take (Int.toNat (↑(List.length t.parts):Int)) t.parts)/\(↑(List.length (List.drop (Int.toNat (1:Int)) (List.take (Int.toNat (↑(List.length t.parts):Int)) t.parts))):Int)=(↑(List.length (List.drop (Int.toNat (1:Int)) (List.take (Int.toNat (↑(List.length t.parts):Int)) t.parts))):Int)/\(ae e.types t.pos t.shapes).2.err=x.2.err/\(ae e.types t.pos t.shapes).2.pos=x.2.pos/\t=t/\e=e/\(0:Int)=(0:Int)/\aD UInt8=aD UInt8/\aD UInt8=aD UInt8/\(0:Int)=(0:Int)/\(0:Int)=(0:Int)/\List.length (ae e.types t.pos t.shapes).1=List.length (ae e.types t.pos t.shapes).1
  /\(ay (aa n) (List.getD t.parts (Int.toNat (0:Int)) (dfl (Ty.st SN.term))) {kind:=(7:Int),pkg:=[],name:=[],names:=t.names,parts:=List.drop (Int.toNat (0:Int)) (List.take (Int.toNat ((↑(List.length (ae e.types t.pos t.shapes).1):Int) - (1:Int))) (ae e.types t.pos t.shapes).1):Shape} e).err=(ay (aa n) (List.getD t.parts (Int.toNat (0:Int)) (dfl (Ty.st SN.term))) {kind:=(7:Int),pkg:=[],name:=[],names:=t.names,parts:=List.drop (Int.toNat (0:Int)) (List.take (Int.toNat ((↑(List.length (ae e.types t.pos t.shapes).1):Int) - (1:Int))) (ae e.types t.pos t.shapes).1):Shape} e).err/\(ay (aa n) (List.getD t.parts (Int.toNat (0:Int)) (dfl (Ty.st SN.term))) {kind:=(7:Int),pkg:=[],name:=[],names:=t.names,parts:=List.drop (Int.toNat (0:Int)) (List.take (Int.toNat ((↑(List.length (ae e.types t.pos t.shapes).1):Int) - (1:Int))) (ae e.types t.pos t.shapes).1):Shape} e).pos=(ay (aa n) (List.getD t.parts (Int.toNat (0:Int)) (dfl (Ty.st SN.term))) {kind:=(7:Int),pkg:=[],name:=[],names:=t.names,parts:=List.drop (Int.toNat (0:Int)) (List.take (Int.toNat ((↑(List.length (ae e.types t.pos t.shapes).1):Int) - (1:Int))) (ae e.types t.pos t.shapes).1):Shape} e).pos/\True)/\∀(x:Nat × Flt),x.1+(1:Nat)<=List.length t.parts/\x.2.err=(0:Int)/\x.2.pos=(0:Int)/\ez (aa n) e (List.getD (ae e.types t.pos t.shapes).1 (List.length (ae e.types t.pos t.shapes).1 - (1:Nat)) ao) (List.drop (x.1+(1:Nat)) t.parts) (List.drop x.1 t.vars) (List.drop x.1 (ae e.types t.pos t.shapes).1)=ez (aa n) e (List.getD (ae e.types t.pos t.shapes).1 (List.length (ae e.types t.pos t.shapes).1 - (1:Nat)) ao) (List.drop (1:Nat) t.parts) t.vars (ae e.types t.pos t.shapes).1→if decide ((↑x.1:Int) < (↑(List.length (List.drop (Int.toNat (1:Int)) (List.take (Int.toNat (↑(List.length t.parts):Int)) t.parts))):Int))=true then ((0:Int)<=(↑x.1:Int)/\(↑x.1:Int) < (↑(List.length (List.drop (Int.toNat (1:Int)) (List.take (Int.toNat (↑(List.length t.parts):Int)) t.parts))):Int))/\((0:Int)<=(↑(List.length (ae e.types t.pos t.shapes).1):Int) - (1:Int)/\(↑(List.length (ae e.types t.pos t.shapes).1):Int) - (1:Int) < (↑(List.length (ae e.types t.pos t.shapes).1):Int))/\((0:Int)<=(↑x.1:Int)/\(↑x.1:Int) < (↑(List.length t.vars):Int))/\((0:Int)<=(↑x.1:Int)/\(↑x.1:Int) < (↑(List.length (ae e.types t.pos t.shapes).1):Int))/\(List.length e.values<=(1000000000:Nat)/\List.length [{pkg:=[],name:=List.getD t.vars (Int.toNat (↑x.1:Int)) (dfl Ty.str),shape:=AL.Shape.mk ((List.getD (ae e.types t.pos t.shapes).1 (Int.toNat (↑x.1:Int)) (dfl (Ty.st SN.shape))).kind) ((List.getD (ae e.types t.pos t.shapes).1 (Int.toNat (↑x.1:Int)) (dfl (Ty.st SN.shape))).pkg) ((List.getD (ae e.types t.pos t.shapes).1 (Int.toNat (↑x.1:Int)) (dfl (Ty.st SN.shape))).name) ((List.getD (ae e.types t.pos t.shapes).1 (Int.toNat (↑x.1:Int)) (dfl (Ty.st SN.shape))).names) ((List.getD (ae e.types t.pos t.shapes).1 (Int.toNat (↑x.1:Int)) (dfl (Ty.st SN.shape))).parts):Bndg}]<=(1000:Nat))/\(szT (List.getD (List.drop (Int.toNat (1:Int)) (List.take (Int.toNat (↑(List.length t.parts):Int)) t.parts)) (Int.toNat (↑x.1:Int)) (dfl (Ty.st SN.term)))<=n/\allT aj (List.getD (List.drop (Int.toNat (1:Int)) (List.take (Int.toNat (↑(List.length t.parts):Int)) t.parts)) (Int.toNat (↑x.1:Int)) (dfl (Ty.st SN.term)))=true
  /\List.length (e.values++[{pkg:=[],name:=List.getD t.vars (Int.toNat (↑x.1:Int)) (dfl Ty.str),shape:=AL.Shape.mk ((List.getD (ae e.types t.pos t.shapes).1 (Int.toNat (↑x.1:Int)) (dfl (Ty.st SN.shape))).kind) ((List.getD (ae e.types t.pos t.shapes).1 (Int.toNat (↑x.1:Int)) (dfl (Ty.st SN.shape))).pkg) ((List.getD (ae e.types t.pos t.shapes).1 (Int.toNat (↑x.1:Int)) (dfl (Ty.st SN.shape))).name) ((List.getD (ae e.types t.pos t.shapes).1 (Int.toNat (↑x.1:Int)) (dfl (Ty.st SN.shape))).names) ((List.getD (ae e.types t.pos t.shapes).1 (Int.toNat (↑x.1:Int)) (dfl (Ty.st SN.shape))).parts):Bndg}])+(4096:Nat) *szT (List.getD (List.drop (Int.toNat (1:Int)) (List.take (Int.toNat (↑(List.length t.parts):Int)) t.parts)) (Int.toNat (↑x.1:Int)) (dfl (Ty.st SN.term)))<=(100000000:Nat))/\if (!decide ((ay (aa n) (List.getD (List.drop (Int.toNat (1:Int)) (List.take (Int.toNat (↑(List.length t.parts):Int)) t.parts)) (Int.toNat (↑x.1:Int)) (dfl (Ty.st SN.term))) (List.getD (ae e.types t.pos t.shapes).1 (Int.toNat ((↑(List.length (ae e.types t.pos t.shapes).1):Int) - (1:Int))) (dfl (Ty.st SN.shape))) (bq e [{pkg:=[],name:=List.getD t.vars (Int.toNat (↑x.1:Int)) (dfl Ty.str),shape:=AL.Shape.mk ((List.getD (ae e.types t.pos t.shapes).1 (Int.toNat (↑x.1:Int)) (dfl (Ty.st SN.shape))).kind) ((List.getD (ae e.types t.pos t.shapes).1 (Int.toNat (↑x.1:Int)) (dfl (Ty.st SN.shape))).pkg) ((List.getD (ae e.types t.pos t.shapes).1 (Int.toNat (↑x.1:Int)) (dfl (Ty.st SN.shape))).name) ((List.getD (ae e.types t.pos t.shapes).1 (Int.toNat (↑x.1:Int)) (dfl (Ty.st SN.shape))).names) ((List.getD (ae e.types t.pos t.shapes).1 (Int.toNat (↑x.1:Int)) (dfl (Ty.st SN.shape))).parts):Bndg}])).err=(0:Int)))=true then ((0:Int)<=(↑(List.length (ae e.types t.pos t.shapes).1):Int) - (1:Int)/\(↑(List.length (ae e.types t.pos t.shapes).1):Int) - (1:Int) < (↑(List.length (ae e.types t.pos t.shapes).1):Int))/\True/\List.getD (ae e.types t.pos t.shapes).1 (Int.toNat ((↑(List.length (ae e.types t.pos t.shapes).1):Int) - (1:Int))) (dfl (Ty.st SN.shape))=(aC (aa n) t e).1/\(ay (aa n) (List.getD (List.drop (Int.toNat (1:Int)) (List.take (Int.toNat (↑(List.length t.parts):Int)) t.parts)) (Int.toNat (↑x.1:Int)) (dfl (Ty.st SN.term))) (List.getD (ae e.types t.pos t.shapes).1 (Int.toNat ((↑(List.length (ae e.types t.pos t.shapes).1):Int) - (1:Int))) (dfl (Ty.st SN.shape))) (bq e [{pkg:=[],name:=List.getD t.vars (Int.toNat (↑x.1:Int)) (dfl Ty.str),shape:=AL.Shape.mk ((List.getD (ae e.types t.pos t.shapes).1 (Int.toNat (↑x.1:Int)) (dfl (Ty.st SN.shape))).kind) ((List.getD (ae e.types t.pos t.shapes).1 (Int.toNat (↑x.1:Int)) (dfl (Ty.st SN.shape))).pkg) ((List.getD (ae e.types t.pos t.shapes).1 (Int.toNat (↑x.1:Int)) (dfl (Ty.st SN.shape))).name) ((List.getD (ae e.types t.pos t.shapes).1 (Int.toNat (↑x.1:Int)) (dfl (Ty.st SN.shape))).names) ((List.getD (ae e.types t.pos t.shapes).1 (Int.toNat (↑x.1:Int)) (dfl (Ty.st SN.shape))).parts):Bndg}])).err=(aC (aa n) t e).2.err
  /\(ay (aa n) (List.getD (List.drop (Int.toNat (1:Int)) (List.take (Int.toNat (↑(List.length t.parts):Int)) t.parts)) (Int.toNat (↑x.1:Int)) (dfl (Ty.st SN.term))) (List.getD (ae e.types t.pos t.shapes).1 (Int.toNat ((↑(List.length (ae e.types t.pos t.shapes).1):Int) - (1:Int))) (dfl (Ty.st SN.shape))) (bq e [{pkg:=[],name:=List.getD t.vars (Int.toNat (↑x.1:Int)) (dfl Ty.str),shape:=AL.Shape.mk ((List.getD (ae e.types t.pos t.shapes).1 (Int.toNat (↑x.1:Int)) (dfl (Ty.st SN.shape))).kind) ((List.getD (ae e.types t.pos t.shapes).1 (Int.toNat (↑x.1:Int)) (dfl (Ty.st SN.shape))).pkg) ((List.getD (ae e.types t.pos t.shapes).1 (Int.toNat (↑x.1:Int)) (dfl (Ty.st SN.shape))).name) ((List.getD (ae e.types t.pos t.shapes).1 (Int.toNat (↑x.1:Int)) (dfl (Ty.st SN.shape))).names) ((List.getD (ae e.types t.pos t.shapes).1 (Int.toNat (↑x.1:Int)) (dfl (Ty.st SN.shape))).parts):Bndg}])).pos=(aC (aa n) t e).2.pos/\True else inR IntKind.i64 ((↑x.1:Int)+(1:Int))/\∃(y:Nat × Flt),(y.1+(1:Nat)<=List.length t.parts/\y.2.err=(0:Int)/\y.2.pos=(0:Int)/\ez (aa n) e (List.getD (ae e.types t.pos t.shapes).1 (List.length (ae e.types t.pos t.shapes).1 - (1:Nat)) ao) (List.drop (y.1+(1:Nat)) t.parts) (List.drop y.1 t.vars) (List.drop y.1 (ae e.types t.pos t.shapes).1)=ez (aa n) e (List.getD (ae e.types t.pos t.shapes).1 (List.length (ae e.types t.pos t.shapes).1 - (1:Nat)) ao) (List.drop (1:Nat) t.parts) t.vars (ae e.types t.pos t.shapes).1)/\List.length t.parts - y.1 < List.length t.parts - x.1/\(↑x.1:Int)+(1:Int)=(↑y.1:Int)/\t=t/\e=e/\(ae e.types t.pos t.shapes).1=(ae e.types t.pos t.shapes).1/\false=false/\(↑(List.length (ae e.types t.pos t.shapes).1):Int) - (1:Int)=(↑(List.length (ae e.types t.pos t.shapes).1):Int) - (1:Int)/\t.kind=t.kind/\false=false/\false=false/\false=false/\false=false/\false=false/\List.drop (Int.toNat (1:Int)) (List.take (Int.toNat (↑(List.length t.parts):Int)) t.parts)=List.drop (Int.toNat (1:Int)) (List.take (Int.toNat (↑(List.length t.parts):Int)) t.parts)/\(↑(List.length (List.drop (Int.toNat (1:Int)) (List.take (Int.toNat (↑(List.length t.parts):Int)) t.parts))):Int)=(↑(List.length (List.drop (Int.toNat (1:Int)) (List.take (Int.toNat (↑(List.length t.parts):Int)) t.parts))):Int)/\(ay (aa n) (List.getD (List.drop (Int.toNat (1:Int)) (List.take (Int.toNat (↑(List.length t.parts):Int)) t.parts)) (Int.toNat (↑x.1:Int)) (dfl (Ty.st SN.term))) (List.getD (ae e.types t.pos t.shapes).1 (Int.toNat ((↑(List.length (ae e.types t.pos t.shapes).1):Int) - (1:Int))) (dfl (Ty.st SN.shape))) (bq e [{pkg:=[],name:=List.getD t.vars (Int.toNat (↑x.1:Int)) (dfl Ty.str),shape:=AL.Shape.mk ((List.getD (ae e.types t.pos t.shapes).1 (Int.toNat (↑x.1:Int)) (dfl (Ty.st SN.shape))).kind) ((List.getD (ae e.types t.pos t.shapes).1 (Int.toNat (↑x.1:Int)) (dfl (Ty.st SN.shape))).pkg) ((List.getD (ae e.types t.pos t.shapes).1 (Int.toNat (↑x.1:Int)) (dfl (Ty.st SN.shape))).name) ((List.getD (ae e.types t.pos t.shapes).1 (Int.toNat (↑x.1:Int)) (dfl (Ty.st SN.shape))).names) ((List.getD (ae e.types t.pos t.shapes).1 (Int.toNat (↑x.1:Int)) (dfl (Ty.st SN.shape))).parts):Bndg}])).err=y.2.err
  /\(ay (aa n) (List.getD (List.drop (Int.toNat (1:Int)) (List.take (Int.toNat (↑(List.length t.parts):Int)) t.parts)) (Int.toNat (↑x.1:Int)) (dfl (Ty.st SN.term))) (List.getD (ae e.types t.pos t.shapes).1 (Int.toNat ((↑(List.length (ae e.types t.pos t.shapes).1):Int) - (1:Int))) (dfl (Ty.st SN.shape))) (bq e [{pkg:=[],name:=List.getD t.vars (Int.toNat (↑x.1:Int)) (dfl Ty.str),shape:=AL.Shape.mk ((List.getD (ae e.types t.pos t.shapes).1 (Int.toNat (↑x.1:Int)) (dfl (Ty.st SN.shape))).kind) ((List.getD (ae e.types t.pos t.shapes).1 (Int.toNat (↑x.1:Int)) (dfl (Ty.st SN.shape))).pkg) ((List.getD (ae e.types t.pos t.shapes).1 (Int.toNat (↑x.1:Int)) (dfl (Ty.st SN.shape))).name) ((List.getD (ae e.types t.pos t.shapes).1 (Int.toNat (↑x.1:Int)) (dfl (Ty.st SN.shape))).names) ((List.getD (ae e.types t.pos t.shapes).1 (Int.toNat (↑x.1:Int)) (dfl (Ty.st SN.shape))).parts):Bndg}])).pos=y.2.pos/\t=t/\e=e/\(0:Int)=(0:Int)/\aD UInt8=aD UInt8/\aD UInt8=aD UInt8/\(0:Int)=(0:Int)/\(0:Int)=(0:Int)/\List.length (ae e.types t.pos t.shapes).1=List.length (ae e.types t.pos t.shapes).1/\(ay (aa n) (List.getD t.parts (Int.toNat (0:Int)) (dfl (Ty.st SN.term))) {kind:=(7:Int),pkg:=[],name:=[],names:=t.names,parts:=List.drop (Int.toNat (0:Int)) (List.take (Int.toNat ((↑(List.length (ae e.types t.pos t.shapes).1):Int) - (1:Int))) (ae e.types t.pos t.shapes).1):Shape} e).err=(ay (aa n) (List.getD t.parts (Int.toNat (0:Int)) (dfl (Ty.st SN.term))) {kind:=(7:Int),pkg:=[],name:=[],names:=t.names,parts:=List.drop (Int.toNat (0:Int)) (List.take (Int.toNat ((↑(List.length (ae e.types t.pos t.shapes).1):Int) - (1:Int))) (ae e.types t.pos t.shapes).1):Shape} e).err/\(ay (aa n) (List.getD t.parts (Int.toNat (0:Int)) (dfl (Ty.st SN.term))) {kind:=(7:Int),pkg:=[],name:=[],names:=t.names,parts:=List.drop (Int.toNat (0:Int)) (List.take (Int.toNat ((↑(List.length (ae e.types t.pos t.shapes).1):Int) - (1:Int))) (ae e.types t.pos t.shapes).1):Shape} e).pos=(ay (aa n) (List.getD t.parts (Int.toNat (0:Int)) (dfl (Ty.st SN.term))) {kind:=(7:Int),pkg:=[],name:=[],names:=t.names,parts:=List.drop (Int.toNat (0:Int)) (List.take (Int.toNat ((↑(List.length (ae e.types t.pos t.shapes).1):Int) - (1:Int))) (ae e.types t.pos t.shapes).1):Shape} e).pos/\True else ((0:Int)<=(↑(List.length (ae e.types t.pos t.shapes).1):Int) - (1:Int)/\(↑(List.length (ae e.types t.pos t.shapes).1):Int) - (1:Int) < (↑(List.length (ae e.types t.pos t.shapes).1):Int))/\True/\List.getD (ae e.types t.pos t.shapes).1 (Int.toNat ((↑(List.length (ae e.types t.pos t.shapes).1):Int) - (1:Int))) (dfl (Ty.st SN.shape))=(aC (aa n) t e).1/\x.2.err=(aC (aa n) t e).2.err/\x.2.pos=(aC (aa n) t e).2.pos/\True:=by
 have rm:=wZ hf
 have ln:=ht.term_parts.len
 have ps:=th t
 have hds:List.drop (Int.toNat 1) (List.take t.parts.length t.parts)=t.parts.drop 1:=by rw [List.take_length];rfl
 have hdg:∀k:Nat,(t.parts.drop 1).getD k (dfl (.st .term))=t.parts.getD (k+1) (dfl (.st .term)):=fun k=>by
  rw [List.getD_eq_getElem?_getD,List.getD_eq_getElem?_getD,List.getElem?_drop,Nat.add_comm]
 have e0:Int.toNat 0=0:=rfl
 have e1:Int.toNat 1=1:=rfl
 have e2:Int.toNat 2=2:=rfl
 have et:∀s:Shape,AL.Shape.mk s.kind s.pkg s.name s.names s.parts=s:=fun s=>by cases s;rfl
 simp only [hds,et,Int.toNat_natCast,eq_self,true_and,and_true]
 simp only [hdg,e0,e1,e2,List.length_drop,List.drop_zero]
 have hsh:t.shapes.length<=1000000:=by
  rcases hk with k | k | k | k | k
  ·have:=rm.k6 k;omega
  ·have:=rm.k11 k;omega
  ·have:=rm.k12 k;omega
  ·have:=rm.k13 k;omega
  ·have:=rm.k15 k;omega
 have hl:=@oy e.types t.pos t.shapes
 have hok:=@pQ e.types t.pos t.shapes
 have hA0:¬(ae e.types t.pos t.shapes).2.err=0→aC (aa n) t e=(ao,(ae e.types t.pos t.shapes).2):=fun h=>by simp only [aC,if_neg h]
 have hA6:(ae e.types t.pos t.shapes).2.err=0→t.kind=6→aC (aa n) t e=(⟨8,[],[],[],(ae e.types t.pos t.shapes).1++[(aa n (t.parts.getD 0 aA) (bq e (dM t.names (ae e.types t.pos t.shapes).1))).1]⟩,(aa n (t.parts.getD 0 aA) (bq e (dM t.names (ae e.types t.pos t.shapes).1))).2):=fun h k=>by simp only [aC,if_pos h,if_pos k]
 have hA11:(ae e.types t.pos t.shapes).2.err=0→t.kind=11→aC (aa n) t e=if (cn (aa n) e ((ae e.types t.pos t.shapes).1.getD 0 ao) t.parts).err=0 then (⟨5,[],[],[],(ae e.types t.pos t.shapes).1⟩,cU) else ((ae e.types t.pos t.shapes).1.getD 0 ao,cn (aa n) e ((ae e.types t.pos t.shapes).1.getD 0 ao) t.parts):=fun h k=>by
  simp only [aC,if_pos h,if_neg (show ¬t.kind=6 by omega),if_pos k]
 have hA15:(ae e.types t.pos t.shapes).2.err=0→t.kind=15→aC (aa n) t e=((ae e.types t.pos t.shapes).1.getD 0 ao,ay (aa n) (t.parts.getD 0 aA) ((ae e.types t.pos t.shapes).1.getD 0 ao) e):=fun h k=>by
  simp only [aC,if_pos h,if_neg (show ¬t.kind=6 by omega),if_neg (show ¬t.kind=11 by omega),if_pos k]
 have hA12:(ae e.types t.pos t.shapes).2.err=0→t.kind=12→aC (aa n) t e=((ae e.types t.pos t.shapes).1.getD 0 ao,if (ay (aa n) (t.parts.getD 0 aA) (ofK 2) e).err=0 then (if (ay (aa n) (t.parts.getD 1 aA) ((ae e.types t.pos t.shapes).1.getD 0 ao) e).err=0 then ay (aa n) (t.parts.getD 2 aA) ((ae e.types t.pos t.shapes).1.getD 0 ao) e else ay (aa n) (t.parts.getD 1 aA) ((ae e.types t.pos t.shapes).1.getD 0 ao) e) else ay (aa n) (t.parts.getD 0 aA) (ofK 2) e):=fun h k=>by
  simp only [aC,if_pos h,if_neg (show ¬t.kind=6 by omega),if_neg (show ¬t.kind=11 by omega),if_neg (show ¬t.kind=15 by omega),if_pos k]
 have hA13:(ae e.types t.pos t.shapes).2.err=0→t.kind=13→aC (aa n) t e=((ae e.types t.pos t.shapes).1.getD ((ae e.types t.pos t.shapes).1.length - 1) ao,if (ay (aa n) (t.parts.getD 0 aA) ⟨7,[],[],t.names,(ae e.types t.pos t.shapes).1.take ((ae e.types t.pos t.shapes).1.length - 1)⟩ e).err=0 then ez (aa n) e ((ae e.types t.pos t.shapes).1.getD ((ae e.types t.pos t.shapes).1.length - 1) ao) (t.parts.drop 1) t.vars (ae e.types t.pos t.shapes).1 else ay (aa n) (t.parts.getD 0 aA) ⟨7,[],[],t.names,(ae e.types t.pos t.shapes).1.take ((ae e.types t.pos t.shapes).1.length - 1)⟩ e):=fun h k=>by
  simp only [aC,if_pos h,if_neg (show ¬t.kind=6 by omega),if_neg (show ¬t.kind=11 by omega),if_neg (show ¬t.kind=15 by omega),if_neg (show ¬t.kind=12 by omega)]
 revert hl hok hA0 hA6 hA11 hA15 hA12 hA13
 generalize aC (aa n) t e=R
 generalize ae e.types t.pos t.shapes=L
 intro hl hok hA0 hA6 hA11 hA15 hA12 hA13
 refine ⟨hsh,ab (fun h=>?_) (fun h=>?_)⟩
 ·rw [hA0 (ndF h)];exact ⟨rfl,rfl,rfl,rfl,rfl,rfl,rfl⟩
 have h:L.2.err=0:=ndT h
 have hl:=hl h
 have hok:L.2=cU:=by rw [hok h]
 have nx:∀{j w:Nat},j < t.parts.length→w<=e.values.length+4096→szT (t.parts.getD j (dfl (.st .term)))<=n/\allT aj (t.parts.getD j (dfl (.st .term)))=true/\w+4096 *szT (t.parts.getD j (dfl (.st .term)))<=100000000:=fun hj hw=>rf hz hf hv _ hj hw
 refine ⟨bF (by omega) (by omega),ab (fun k=>?_) (fun k6=>?_)⟩
 ·have k:=Xo k
  obtain ⟨n1,n2,n3⟩:=rm.k6 k
  refine ⟨⟨(0,e),⟨Nat.zero_le _,rfl,by rw [List.drop_zero,List.drop_zero]⟩,rfl,rfl⟩,?_⟩
  rintro ⟨j,f⟩ ⟨h1,h2,h3⟩
  dsimp only at h1 h2 h3 ⊢
  refine ab (fun c=>?_) (fun c=>?_)
  ·have c:=Xo c
   have hj:j < t.names.length:=by omega
   rw [aH t.names j (dfl .str) hj,aH L.1 j (dfl (.st .shape)) (by omega)] at h3
   simp only [dM] at h3
   refine ⟨by omega,by omega,⟨by omega,by simp⟩,bF (by omega) (by omega),(j+1,_),⟨by dsimp only;omega,?_,?_⟩,by dsimp only;omega,by dsimp only;omega,rfl⟩
   ·dsimp only;rw [List.length_append,h2];simp only [List.length_cons,List.length_nil];omega
   ·show bq (bq f [kI (t.names.getD j (dfl .str)) (L.1.getD j (dfl (.st .shape)))]) _=_
    rw [tg];exact h3
  ·have c:¬((j:Int) < (t.names.length:Int)):=fun q=>c (Xd q)
   have hj:j=t.names.length:=by omega
   have hf':f=bq e (dM t.names L.1):=by
    rw [hj,List.drop_length] at h3
    simp only [dM] at h3
    rw [yu] at h3
    exact h3
   have ob:=nx (j:=0) (w:=f.values.length) (by omega) (by omega)
   rw [hA6 h k]
   refine ⟨by omega,ob,?_,rfl,rfl,rfl,rfl,?_,?_,?_⟩
   ·simp only [List.length_cons,List.length_nil];omega
   ·rw [hf'];rfl
   ·rw [hf'];rfl
   ·rw [hf'];rfl
 have k6:¬t.kind=6:=fun q=>k6 (Xd q)
 refine ab (fun k=>?_) (fun k11=>?_)
 ·have k:=Xo k
  have n1:=rm.k11 k
  refine ⟨⟨0,⟨Nat.zero_le _,by rw [List.drop_zero]⟩,rfl⟩,?_⟩
  rintro j ⟨h1,h2⟩
  refine ab (fun c=>?_) (fun c=>?_)
  ·have c:=Xo c
   have hj:j < t.parts.length:=by omega
   rw [aH t.parts j (dfl (.st .term)) hj] at h2
   simp only [cn] at h2
   refine ⟨by omega,by omega,nx hj (Nat.le_add_right _ _),ab (fun f=>?_) (fun f=>?_)⟩
   ·have f:¬(ay (aa n) (t.parts.getD j (dfl (.st .term))) (L.1.getD 0 ao) e).err=0:=ndF f
    rw [if_neg f] at h2
    rw [hA11 h k,←h2,if_neg f]
    exact ⟨by omega,rfl,rfl,rfl⟩
   ·have f:(ay (aa n) (t.parts.getD j (dfl (.st .term))) (L.1.getD 0 ao) e).err=0:=ndT f
    rw [if_pos f] at h2
    exact ⟨bc hj ln,j+1,⟨by omega,h2⟩,by omega,by omega⟩
  ·have c:¬((j:Int) < (t.parts.length:Int)):=fun q=>c (Xd q)
   have hj:j=t.parts.length:=by omega
   rw [hj,List.drop_length] at h2
   rw [hA11 h k,←h2]
   exact ⟨rfl,rfl,rfl,rfl,rfl,rfl,rfl⟩
 have k11:¬t.kind=11:=fun q=>k11 (Xd q)
 refine ab (fun k=>?_) (fun k15=>?_)
 ·have k:=Xo k
  obtain ⟨n1,n2⟩:=rm.k15 k
  rw [hA15 h k]
  exact ⟨by omega,by omega,by omega,nx (by omega) (Nat.le_add_right _ _),rfl,rfl,rfl⟩
 have k15:¬t.kind=15:=fun q=>k15 (Xd q)
 refine ab (fun k=>?_) (fun k12=>?_)
 ·have k:=Xo k
  obtain ⟨n1,n2⟩:=rm.k12 k
  rw [hA12 h k]
  refine ⟨by omega,nx (by omega) (Nat.le_add_right _ _),ab (fun f=>?_) (fun f=>?_)⟩
  ·rw [if_neg (show ¬(ay (aa n) (t.parts.getD 0 aA) (ofK 2) e).err=0 from ndF f)]
   exact ⟨by omega,rfl,rfl,rfl⟩
  rw [if_pos (show (ay (aa n) (t.parts.getD 0 aA) (ofK 2) e).err=0 from ndT f)]
  refine ⟨by omega,by omega,nx (by omega) (Nat.le_add_right _ _),ab (fun f=>?_) (fun f=>?_)⟩
  ·rw [if_neg (show ¬(ay (aa n) (t.parts.getD 1 aA) (L.1.getD 0 ao) e).err=0 from ndF f)]
   exact ⟨by omega,rfl,rfl,rfl⟩
  rw [if_pos (show (ay (aa n) (t.parts.getD 1 aA) (L.1.getD 0 ao) e).err=0 from ndT f)]
  exact ⟨by omega,by omega,by omega,nx (by omega) (Nat.le_add_right _ _),rfl,rfl,rfl⟩
 have k12:¬t.kind=12:=fun q=>k12 (Xd q)
 have k:t.kind=13:=by omega
 obtain ⟨n1,n2,n3⟩:=rm.k13 k
 have el:((L.1.length:Int) - 1).toNat=L.1.length - 1:=by omega
 rw [el,hA13 h k]
 refine ⟨by omega,by omega,nx (by omega) (Nat.le_add_right _ _),ab (fun f=>?_) (fun f=>?_)⟩
 ·rw [if_neg (show ¬(ay (aa n) (t.parts.getD 0 aA) ⟨7,[],[],t.names,L.1.take (L.1.length - 1)⟩ e).err=0 from ndF f)]
  exact ⟨by omega,rfl,rfl,rfl⟩
 rw [if_pos (show (ay (aa n) (t.parts.getD 0 aA) ⟨7,[],[],t.names,L.1.take (L.1.length - 1)⟩ e).err=0 from ndT f)]
 refine ⟨by omega,⟨(0,cU),⟨by dsimp only;omega,rfl,rfl,by rw [List.drop_zero,List.drop_zero]⟩,rfl,by rw [hok],by rw [hok]⟩,?_⟩
 rintro ⟨j,f⟩ ⟨h1,h2,h3,h4⟩
 dsimp only at h1 h2 h3 h4 ⊢
 refine ab (fun c=>?_) (fun c=>?_)
 ·have c:=Xo c
  have hj:j+1 < t.parts.length:=by omega
  rw [aH t.parts (j+1) (dfl (.st .term)) hj,aH t.vars j (dfl .str) (by omega),aH L.1 j (dfl (.st .shape)) (by omega)] at h4
  simp only [ez] at h4
  have ob:=nx (j:=j+1) (w:=e.values.length+1) hj (by omega)
  refine ⟨by omega,by omega,by omega,by omega,⟨by omega,by simp⟩,?_,ab (fun f=>?_) (fun f=>?_)⟩
  ·rw [List.length_append];exact ob
  ·have f:=ndF f
   rw [←h4,if_neg (show ¬(ay (aa n) (t.parts.getD (j+1) (dfl (.st .term))) (L.1.getD (L.1.length - 1) ao) (bq e [kI (t.vars.getD j (dfl .str)) (L.1.getD j (dfl (.st .shape)))])).err=0 from f)]
   exact ⟨by omega,rfl,rfl,rfl⟩
  ·have f:=ndT f
   rw [if_pos (show (ay (aa n) (t.parts.getD (j+1) (dfl (.st .term))) (L.1.getD (L.1.length - 1) ao) (bq e [kI (t.vars.getD j (dfl .str)) (L.1.getD j (dfl (.st .shape)))])).err=0 from f)] at h4
   exact ⟨bc (by omega) ln,(j+1,cU),⟨by dsimp only;omega,rfl,rfl,h4⟩,by dsimp only;omega,by dsimp only;omega,f,by rw [yx f]⟩
 ·have c:¬((j:Int) < ((t.parts.length - 1:Nat):Int)):=fun q=>c (Xd q)
  have hj:j+1=t.parts.length:=by omega
  rw [hj,List.drop_length] at h4
  simp only [ez] at h4
  rw [←h4]
  exact ⟨by omega,rfl,h2,h3⟩
theorem yW (n:Nat) (t:Trm) (e:Envt) (ht:Wf (.st .term) t) (he:Wf (.st .env) e) (hz:szT t<=n+1) (hf:allT aj t=true) (hv:e.values.length+4096 *szT t<=100000000) :
  if decide (t.kind=(1:Int))=true then True/\ofK (1:Int)=(an (aa n) t e).1/\(0:Int)=(an (aa n) t e).2.err/\(0:Int)=(an (aa n) t e).2.pos/\True else if decide (t.kind=(2:Int))=true then True/\ofK (3:Int)=(an (aa n) t e).1/\(0:Int)=(an (aa n) t e).2.err/\(0:Int)=(an (aa n) t e).2.pos/\True else if decide (t.kind=(3:Int))=true then True/\ofK (2:Int)=(an (aa n) t e).1/\(0:Int)=(an (aa n) t e).2.err/\(0:Int)=(an (aa n) t e).2.pos/\True else (decide (t.kind=(4:Int))=(decide (t.kind=(3:Int)) || decide (t.kind=(4:Int)))/\t=t/\e=e/\t.kind=t.kind/\false=false/\false=false/\t=t/\e=e/\(0:Int)=(0:Int)/\aD UInt8=aD UInt8/\aD UInt8=aD UInt8/\(0:Int)=(0:Int)/\(0:Int)=(0:Int)/\True)/\if (decide (t.kind=(3:Int)) || decide (t.kind=(4:Int)))=true then True/\ofK (2:Int)=(an (aa n) t e).1/\(0:Int)=(an (aa n) t e).2.err/\(0:Int)=(an (aa n) t e).2.pos/\True else if decide (t.kind=(5:Int))=true then if (!Option.isSome (aO e.values t.pkg t.name))=true then True/\Option.elim (aO e.values t.pkg t.name) ao aW=(an (aa n) t e).1/\(110:Int)=(an (aa n) t e).2.err/\t.pos=(an (aa n) t e).2.pos/\True else True/\Option.elim (aO e.values t.pkg t.name) ao aW=(an (aa n) t e).1/\(0:Int)=(an (aa n) t e).2.err/\(0:Int)=(an (aa n) t e).2.pos/\True else if decide (t.kind=(7:Int))=true then ((0:Nat) < List.length t.parts/\szT t<=n+(1:Nat)/\allT aj t=true/\List.length e.values+(4096:Nat) *szT t<=(100000000:Nat))/\True/\(bL (aa n) t e).1=(an (aa n) t e).1/\(bL (aa n) t e).2.err=(an (aa n) t e).2.err/\(bL (aa n) t e).2.pos=(an (aa n) t e).2.pos/\True else if decide (t.kind=(8:Int))=true then (∃(x:Nat × List Shape),(x.1<=List.length t.parts/\List.length x.2=x.1/\bZ (aa n) e t.parts=(x.2++(bZ (aa n) e (List.drop x.1 t.parts)).1,(bZ (aa n) e (List.drop x.1 t.parts)).2))/\(0:Int)=(↑x.1:Int)/\false=false/\t=t/\e=e/\t.kind=t.kind/\false=false/\false=false/\false=false/\false=false/\true=true/\t.parts=t.parts/\(↑(List.length t.parts):Int)=(↑(List.length t.parts):Int)/\(6:Int)=(6:Int)/\aD UInt8=aD UInt8/\aD UInt8=aD UInt8/\t.names=t.names/\x.2=[]/\List.length x.2=(0:Nat)/\t=t/\e=e/\(0:Int)=(0:Int)/\aD UInt8=aD UInt8/\aD UInt8=aD UInt8/\(0:Int)=(0:Int)/\(0:Int)=(0:Int)/\True)/\∀(x:Nat × List Shape),x.1<=List.length t.parts/\List.length x.2=x.1/\bZ (aa n) e t.parts=(x.2++(bZ (aa n) e (List.drop x.1 t.parts)).1,(bZ (aa n) e (List.drop x.1 t.parts)).2)→if decide ((↑x.1:Int) < (↑(List.length t.parts):Int))=true then ((0:Int)<=(↑x.1:Int)/\(↑x.1:Int) < (↑(List.length t.parts):Int))/\(szT (List.getD t.parts (Int.toNat (↑x.1:Int)) (dfl (Ty.st SN.term)))<=n/\allT aj (List.getD t.parts (Int.toNat (↑x.1:Int)) (dfl (Ty.st SN.term)))=true/\List.length e.values+(4096:Nat) *szT (List.getD t.parts (Int.toNat (↑x.1:Int)) (dfl (Ty.st SN.term)))<=(100000000:Nat))/\if (!decide ((aa n (List.getD t.parts (Int.toNat (↑x.1:Int)) (dfl (Ty.st SN.term))) e).2.err=(0:Int)))=true then True/\(aa n (List.getD t.parts (Int.toNat (↑x.1:Int)) (dfl (Ty.st SN.term))) e).1=(an (aa n) t e).1/\(aa n (List.getD t.parts (Int.toNat (↑x.1:Int)) (dfl (Ty.st SN.term))) e).2.err=(an (aa n) t e).2.err
  /\(aa n (List.getD t.parts (Int.toNat (↑x.1:Int)) (dfl (Ty.st SN.term))) e).2.pos=(an (aa n) t e).2.pos/\True else (List.length x.2=List.length x.2/\(List.length x.2+List.length [(aa n (List.getD t.parts (Int.toNat (↑x.1:Int)) (dfl (Ty.st SN.term))) e).1]) *(88:Nat)<=(140737488355328:Nat))/\inR IntKind.i64 ((↑x.1:Int)+(1:Int))/\∃(y:Nat × List Shape),(y.1<=List.length t.parts/\List.length y.2=y.1/\bZ (aa n) e t.parts=(y.2++(bZ (aa n) e (List.drop y.1 t.parts)).1,(bZ (aa n) e (List.drop y.1 t.parts)).2))/\List.length t.parts - y.1 < List.length t.parts - x.1/\(↑x.1:Int)+(1:Int)=(↑y.1:Int)/\false=false/\t=t/\e=e/\t.kind=t.kind/\false=false/\false=false/\false=false/\false=false/\true=true/\t.parts=t.parts/\(↑(List.length t.parts):Int)=(↑(List.length t.parts):Int)/\(6:Int)=(6:Int)/\aD UInt8=aD UInt8/\aD UInt8=aD UInt8/\t.names=t.names/\x.2++[(aa n (List.getD t.parts (Int.toNat (↑x.1:Int)) (dfl (Ty.st SN.term))) e).1]=y.2/\List.length (x.2++[(aa n (List.getD t.parts (Int.toNat (↑x.1:Int)) (dfl (Ty.st SN.term))) e).1])=List.length y.2/\t=t/\e=e/\(0:Int)=(0:Int)/\aD UInt8=aD UInt8/\aD UInt8=aD UInt8/\(0:Int)=(0:Int)/\(0:Int)=(0:Int)/\True else True/\(6:Int)=(an (aa n) t e).1.kind/\[]=(an (aa n) t e).1.pkg/\[]=(an (aa n) t e).1.name/\t.names=(an (aa n) t e).1.names/\x.2=(an (aa n) t e).1.parts/\(0:Int)=(an (aa n) t e).2.err/\(0:Int)=(an (aa n) t e).2.pos/\True else if decide (t.kind=(9:Int))=true then ((0:Nat) < List.length t.parts/\szT t<=n+(1:Nat)/\allT aj t=true/\List.length e.values+(4096:Nat) *szT t<=(100000000:Nat))/\True/\(bO (aa n) t e).1=(an (aa n) t e).1/\(bO (aa n) t e).2.err=(an (aa n) t e).2.err/\(bO (aa n) t e).2.pos=(an (aa n) t e).2.pos/\True else if decide (t.kind=(10:Int))=true then ((0:Int)<=(0:Int)/\(0:Int) < (↑(List.length t.parts):Int))/\(szT (List.getD t.parts (Int.toNat (0:Int)) (dfl (Ty.st SN.term)))<=n/\allT aj (List.getD t.parts (Int.toNat (0:Int)) (dfl (Ty.st SN.term)))=true/\List.length e.values+(4096:Nat) *szT (List.getD t.parts (Int.toNat (0:Int)) (dfl (Ty.st SN.term)))<=(100000000:Nat))/\True/\(7:Int)=(an (aa n) t e).1.kind/\[]=(an (aa n) t e).1.pkg/\[]=(an (aa n) t e).1.name/\[t.name]=(an (aa n) t e).1.names/\[(aa n (List.getD t.parts (Int.toNat (0:Int)) (dfl (Ty.st SN.term))) e).1]=(an (aa n) t e).1.parts/\(aa n (List.getD t.parts (Int.toNat (0:Int)) (dfl (Ty.st SN.term))) e).2.err=(an (aa n) t e).2.err/\(aa n (List.getD t.parts (Int.toNat (0:Int)) (dfl (Ty.st SN.term))) e).2.pos=(an (aa n) t e).2.pos/\True else if decide (t.kind=(14:Int))=true then ((0:Int)<=(0:Int)/\(0:Int) < (↑(List.length t.parts):Int))/\(szT (List.getD t.parts (Int.toNat (0:Int)) (dfl (Ty.st SN.term)))<=n/\allT aj (List.getD t.parts (Int.toNat (0:Int)) (dfl (Ty.st SN.term)))=true/\List.length e.values+(4096:Nat) *szT (List.getD t.parts (Int.toNat (0:Int)) (dfl (Ty.st SN.term)))<=(100000000:Nat))/\if (!decide ((aa n (List.getD t.parts (Int.toNat (0:Int)) (dfl (Ty.st SN.term))) e).2.err=(0:Int)))=true then True/\(aa n (List.getD t.parts (Int.toNat (0:Int)) (dfl (Ty.st SN.term))) e).1=(an (aa n) t e).1/\(aa n (List.getD t.parts (Int.toNat (0:Int)) (dfl (Ty.st SN.term))) e).2.err=(an (aa n) t e).2.err
  /\(aa n (List.getD t.parts (Int.toNat (0:Int)) (dfl (Ty.st SN.term))) e).2.pos=(an (aa n) t e).2.pos/\True else ((0:Int)<=(1:Int)/\(1:Int) < (↑(List.length t.parts):Int))/\(List.length e.values<=(1000000000:Nat)/\List.length [{pkg:=[],name:=t.name,shape:=AL.Shape.mk ((aa n (List.getD t.parts (Int.toNat (0:Int)) (dfl (Ty.st SN.term))) e).1.kind) ((aa n (List.getD t.parts (Int.toNat (0:Int)) (dfl (Ty.st SN.term))) e).1.pkg) ((aa n (List.getD t.parts (Int.toNat (0:Int)) (dfl (Ty.st SN.term))) e).1.name) ((aa n (List.getD t.parts (Int.toNat (0:Int)) (dfl (Ty.st SN.term))) e).1.names) ((aa n (List.getD t.parts (Int.toNat (0:Int)) (dfl (Ty.st SN.term))) e).1.parts):Bndg}]<=(1000:Nat))/\(szT (List.getD t.parts (Int.toNat (1:Int)) (dfl (Ty.st SN.term)))<=n/\allT aj (List.getD t.parts (Int.toNat (1:Int)) (dfl (Ty.st SN.term)))=true/\List.length (e.values++[{pkg:=[],name:=t.name,shape:=AL.Shape.mk ((aa n (List.getD t.parts (Int.toNat (0:Int)) (dfl (Ty.st SN.term))) e).1.kind) ((aa n (List.getD t.parts (Int.toNat (0:Int)) (dfl (Ty.st SN.term))) e).1.pkg) ((aa n (List.getD t.parts (Int.toNat (0:Int)) (dfl (Ty.st SN.term))) e).1.name) ((aa n (List.getD t.parts (Int.toNat (0:Int)) (dfl (Ty.st SN.term))) e).1.names) ((aa n (List.getD t.parts (Int.toNat (0:Int)) (dfl (Ty.st SN.term))) e).1.parts):Bndg}])+(4096:Nat) *szT (List.getD t.parts (Int.toNat (1:Int)) (dfl (Ty.st SN.term)))<=(100000000:Nat))/\True/\(aa n (List.getD t.parts (Int.toNat (1:Int)) (dfl (Ty.st SN.term))) (bq e [{pkg:=[],name:=t.name,shape:=AL.Shape.mk ((aa n (List.getD t.parts (Int.toNat (0:Int)) (dfl (Ty.st SN.term))) e).1.kind) ((aa n (List.getD t.parts (Int.toNat (0:Int)) (dfl (Ty.st SN.term))) e).1.pkg) ((aa n (List.getD t.parts (Int.toNat (0:Int)) (dfl (Ty.st SN.term))) e).1.name) ((aa n (List.getD t.parts (Int.toNat (0:Int)) (dfl (Ty.st SN.term))) e).1.names) ((aa n (List.getD t.parts (Int.toNat (0:Int)) (dfl (Ty.st SN.term))) e).1.parts):Bndg}])).1=(an (aa n) t e).1/\(aa n (List.getD t.parts (Int.toNat (1:Int)) (dfl (Ty.st SN.term))) (bq e [{pkg:=[],name:=t.name,shape:=AL.Shape.mk ((aa n (List.getD t.parts (Int.toNat (0:Int)) (dfl (Ty.st SN.term))) e).1.kind) ((aa n (List.getD t.parts (Int.toNat (0:Int)) (dfl (Ty.st SN.term))) e).1.pkg) ((aa n (List.getD t.parts (Int.toNat (0:Int)) (dfl (Ty.st SN.term))) e).1.name) ((aa n (List.getD t.parts (Int.toNat (0:Int)) (dfl (Ty.st SN.term))) e).1.names) ((aa n (List.getD t.parts (Int.toNat (0:Int)) (dfl (Ty.st SN.term))) e).1.parts):Bndg}])).2.err=(an (aa n) t e).2.err/\(aa n (List.getD t.parts (Int.toNat (1:Int)) (dfl (Ty.st SN.term))) (bq e [{pkg:=[],name:=t.name,shape:=AL.Shape.mk ((aa n (List.getD t.parts (Int.toNat (0:Int)) (dfl (Ty.st SN.term))) e).1.kind) ((aa n (List.getD t.parts (Int.toNat (0:Int)) (dfl (Ty.st SN.term))) e).1.pkg) ((aa n (List.getD t.parts (Int.toNat (0:Int)) (dfl (Ty.st SN.term))) e).1.name) ((aa n (List.getD t.parts (Int.toNat (0:Int)) (dfl (Ty.st SN.term))) e).1.names) ((aa n (List.getD t.parts (Int.toNat (0:Int)) (dfl (Ty.st SN.term))) e).1.parts):Bndg}])).2.pos=(an (aa n) t e).2.pos/\True else if decide (t.kind=(16:Int))=true then ((0:Nat) < List.length t.parts/\szT t<=n+(1:Nat)/\allT aj t=true/\List.length e.values+(4096:Nat) *szT t<=(100000000:Nat))/\True/\(cA (aa n) t e).1=(an (aa n) t e).1/\(cA (aa n) t e).2.err=(an (aa n) t e).2.err/\(cA (aa n) t e).2.pos=(an (aa n) t e).2.pos/\True else if decide (t.kind=(17:Int))=true then ((0:Nat) < List.length t.parts/\szT t<=n+(1:Nat)
  /\allT aj t=true/\List.length e.values+(4096:Nat) *szT t<=(100000000:Nat))/\True/\(cA (aa n) t e).1=(an (aa n) t e).1/\(cA (aa n) t e).2.err=(an (aa n) t e).2.err/\(cA (aa n) t e).2.pos=(an (aa n) t e).2.pos/\True else ((t.kind=(6:Int)∨t.kind=(11:Int)∨t.kind=(12:Int)∨t.kind=(13:Int)∨t.kind=(15:Int))/\szT t<=n+(1:Nat)/\allT aj t=true/\List.length e.values+(4096:Nat) *szT t<=(100000000:Nat))/\True/\(aC (aa n) t e).1=(an (aa n) t e).1/\(aC (aa n) t e).2.err=(an (aa n) t e).2.err/\(aC (aa n) t e).2.pos=(an (aa n) t e).2.pos/\True:=by
 have rm:=wZ hf
 have ln:=ht.term_parts.len
 have ps:=th t
 have e0:Int.toNat 0=0:=rfl
 have e1:Int.toNat 1=1:=rfl
 have et:∀s:Shape,AL.Shape.mk s.kind s.pkg s.name s.names s.parts=s:=fun s=>by cases s;rfl
 simp only [e0,e1,et,Int.toNat_natCast,eq_self,true_and,and_true]
 have nx:∀{j w:Nat},j < t.parts.length→w<=e.values.length+4096→szT (t.parts.getD j (dfl (.st .term)))<=n/\allT aj (t.parts.getD j (dfl (.st .term)))=true/\w+4096 *szT (t.parts.getD j (dfl (.st .term)))<=100000000:=fun hj hw=>rf hz hf hv _ hj hw
 refine ab (fun k=>?_) (fun k1=>?_)
 ·have k:=Xo k
  rw [show an (aa n) t e=(ofK 1,cU) by unfold an;simp [k]]
  exact ⟨rfl,rfl,rfl⟩
 have k1:¬t.kind=1:=fun q=>k1 (Xd q)
 refine ab (fun k=>?_) (fun k2=>?_)
 ·have k:=Xo k
  rw [show an (aa n) t e=(ofK 3,cU) by unfold an;simp [k]]
  exact ⟨rfl,rfl,rfl⟩
 have k2:¬t.kind=2:=fun q=>k2 (Xd q)
 refine ab (fun k=>?_) (fun k3=>?_)
 ·have k:=Xo k
  rw [show an (aa n) t e=(ofK 2,cU) by unfold an;simp [k]]
  exact ⟨rfl,rfl,rfl⟩
 have k3:¬t.kind=3:=fun q=>k3 (Xd q)
 refine ⟨by rw [Xf k3,Bool.false_or],ab (fun k=>?_) (fun k4=>?_)⟩
 ·have k:t.kind=4:=by rw [Xf k3,Bool.false_or] at k;exact Xo k
  rw [show an (aa n) t e=(ofK 2,cU) by unfold an;simp [k]]
  exact ⟨rfl,rfl,rfl⟩
 have k4:¬t.kind=4:=fun q=>k4 (by rw [Xd q,Bool.or_true])
 refine ab (fun k=>?_) (fun k5=>?_)
 ·have k:=Xo k
  have hN:aO e.values t.pkg t.name=none→an (aa n) t e=(ao,⟨110,t.pos⟩):=fun g=>by unfold an;simp [k,g]
  have hS:∀s,aO e.values t.pkg t.name=some s→an (aa n) t e=(aW s,cU):=fun s g=>by unfold an;simp [k,g]
  cases g:aO e.values t.pkg t.name with
  | none=>rw [hN g];exact ab (fun _=>⟨rfl,rfl,rfl⟩) (fun q=>absurd rfl q)
  | some s=>rw [hS s g];exact ab (fun q=>absurd q Bool.false_ne_true) (fun _=>⟨rfl,rfl,rfl⟩)
 have k5:¬t.kind=5:=fun q=>k5 (Xd q)
 refine ab (fun k=>?_) (fun k7=>?_)
 ·have k:=Xo k
  rw [show an (aa n) t e=bL (aa n) t e by unfold an;simp [k]]
  exact ⟨⟨rm.k7 k,hz,hf,hv⟩,rfl,rfl,rfl⟩
 have k7:¬t.kind=7:=fun q=>k7 (Xd q)
 refine ab (fun k=>?_) (fun k8=>?_)
 ·have k:=Xo k
  have hP:an (aa n) t e=if (bZ (aa n) e t.parts).2.2.err=0 then (⟨6,[],[],t.names,(bZ (aa n) e t.parts).1⟩,cU) else (bZ (aa n) e t.parts).2:=by unfold an;simp [k]
  refine ⟨⟨(0,[]),⟨Nat.zero_le _,rfl,by rw [List.drop_zero];rfl⟩,rfl,rfl,rfl⟩,?_⟩
  rintro ⟨j,q⟩ ⟨h1,h2,h3⟩
  dsimp only at h1 h2 h3 ⊢
  refine ab (fun c=>?_) (fun c=>?_)
  ·have c:=Xo c
   have hj:j < t.parts.length:=by omega
   rw [aH t.parts j (dfl (.st .term)) hj] at h3
   simp only [bZ] at h3
   refine ⟨by omega,nx hj (Nat.le_add_right _ _),ab (fun f=>?_) (fun f=>?_)⟩
   ·have f:=ndF f
    rw [if_neg f] at h3
    rw [hP,h3,if_neg (show ¬(q++[],aa n (t.parts.getD j (dfl (.st .term))) e).2.2.err=0 from f)]
    exact ⟨rfl,rfl,rfl⟩
   ·have f:=ndT f
    rw [if_pos f] at h3
    refine ⟨by simp only [List.length_cons,List.length_nil];omega,bc hj ln,(j+1,q++[_]),⟨by dsimp only;omega,by simp [h2],?_⟩,by dsimp only;omega,by dsimp only;omega,rfl,rfl⟩
    dsimp only
    rw [h3,List.append_assoc]
    rfl
  ·have c:¬((j:Int) < (t.parts.length:Int)):=fun q=>c (Xd q)
   have hj:j=t.parts.length:=by omega
   rw [hj,List.drop_length] at h3
   simp only [bZ,List.append_nil] at h3
   rw [hP,h3]
   exact ⟨rfl,rfl,rfl,rfl,rfl,rfl,rfl⟩
 have k8:¬t.kind=8:=fun q=>k8 (Xd q)
 refine ab (fun k=>?_) (fun k9=>?_)
 ·have k:=Xo k
  rw [show an (aa n) t e=bO (aa n) t e by unfold an;simp [k]]
  have:=rm.k1 (by omega)
  exact ⟨⟨by omega,hz,hf,hv⟩,rfl,rfl,rfl⟩
 have k9:¬t.kind=9:=fun q=>k9 (Xd q)
 refine ab (fun k=>?_) (fun k10=>?_)
 ·have k:=Xo k
  rw [show an (aa n) t e=(⟨7,[],[],[t.name],[(aa n (t.parts.getD 0 aA) e).1]⟩,(aa n (t.parts.getD 0 aA) e).2) by unfold an;simp [k]]
  have:=rm.k1 (by omega)
  exact ⟨by omega,nx (by omega) (Nat.le_add_right _ _),rfl,rfl,rfl,rfl,rfl,rfl,rfl⟩
 have k10:¬t.kind=10:=fun q=>k10 (Xd q)
 refine ab (fun k=>?_) (fun k14=>?_)
 ·have k:=Xo k
  rw [show an (aa n) t e=(if (aa n (t.parts.getD 0 aA) e).2.err=0 then aa n (t.parts.getD 1 aA) (bq e [kI t.name (aa n (t.parts.getD 0 aA) e).1]) else aa n (t.parts.getD 0 aA) e) by unfold an;simp [k]]
  have:=rm.k14 k
  refine ⟨by omega,nx (by omega) (Nat.le_add_right _ _),ab (fun f=>?_) (fun f=>?_)⟩
  ·rw [if_neg (show ¬(aa n (t.parts.getD 0 aA) e).2.err=0 from ndF f)]
   exact ⟨rfl,rfl,rfl⟩
  ·rw [if_pos (show (aa n (t.parts.getD 0 aA) e).2.err=0 from ndT f)]
   refine ⟨by omega,⟨by omega,by simp⟩,?_,rfl,rfl,rfl⟩
   rw [List.length_append]
   exact nx (by omega) (by simp)
 have k14:¬t.kind=14:=fun q=>k14 (Xd q)
 refine ab (fun k=>?_) (fun k16=>?_)
 ·have k:=Xo k
  rw [show an (aa n) t e=cA (aa n) t e by unfold an;simp [k]]
  have:=rm.k1 (by omega)
  exact ⟨⟨by omega,hz,hf,hv⟩,rfl,rfl,rfl⟩
 have k16:¬t.kind=16:=fun q=>k16 (Xd q)
 refine ab (fun k=>?_) (fun k17=>?_)
 ·have k:=Xo k
  rw [show an (aa n) t e=cA (aa n) t e by unfold an;simp [k]]
  have:=rm.k1 (by omega)
  exact ⟨⟨by omega,hz,hf,hv⟩,rfl,rfl,rfl⟩
 have k17:¬t.kind=17:=fun q=>k17 (Xd q)
 have ka:=rm.all
 rw [show an (aa n) t e=aC (aa n) t e by unfold an;simp [k1,k2,k3,k4,k5,k7,k8,k9,k10,k14,k16,k17]]
 exact ⟨⟨by omega,hz,hf,hv⟩,rfl,rfl,rfl⟩
theorem B0 (t:Trm) (e:Envt) (ht:Wf (.st .term) t) (he:Wf (.st .env) e) (ho:fewT t=true/\e.values.length<=1000000) :
  fewT t=true/\if (!decide (di t=(0:Int)))=true then True/\(0:Int)=(ck t e).1.kind/\[]=(ck t e).1.pkg/\[]=(ck t e).1.name/\(ck t e).1.names=[]/\(ck t e).1.parts=[]/\di t=(ck t e).2.err/\(0:Int)=(ck t e).2.pos/\True else (szT t<=szT t/\allT aj t=true/\List.length e.values+(4096:Nat) *szT t<=(100000000:Nat))/\True/\(aa (szT t) t e).1=(ck t e).1/\(aa (szT t) t e).2.err=(ck t e).2.err/\(aa (szT t) t e).2.pos=(ck t e).2.pos/\True:=by
 obtain ⟨h1,h2⟩:=ho
 refine ⟨h1,ab (fun h=>?_) (fun h=>?_)⟩
 ·have h:=ndF h
  rw [show ck t e=(ao,⟨di t,0⟩) by unfold ck;rw [if_neg h]]
  exact ⟨trivial,rfl,rfl,rfl,rfl,rfl,rfl,rfl,trivial⟩
 ·have h:=ndT h
  rw [show ck t e=aa (szT t) t e by unfold ck;rw [if_pos h]]
  have:=(vw h).1
  exact ⟨⟨Nat.le_refl _,vu h,by omega⟩,trivial,rfl,rfl,rfl,trivial⟩
theorem vJ (t:Trm) (ht:Wf (.st .term) t) :
  (szT t<=szT t/\(0:Int)<=(300:Int)/\(300:Int)<=(1000000:Int))/\True/\decide (dm t (300:Int)<=(300:Int))=decide (dm t (300:Int)<=(300:Int))/\True:=by
 exact ⟨⟨Nat.le_refl _,by decide,by decide⟩,trivial,rfl,trivial⟩
theorem tx (n:Nat) (t:Trm) (b:Bndg) (ht:Wf (.st .term) t) (hz:szT t<=n+1) :
  (∃(x:Nat),(x<=List.length t.parts/\standsTL b t.parts=standsTL b (List.drop x t.parts))/\(0:Int)=(↑x:Int)/\t=t/\b=b/\t=t/\b=b/\True)/\∀(x:Nat),x<=List.length t.parts/\standsTL b t.parts=standsTL b (List.drop x t.parts)→if decide ((↑x:Int) < (↑(List.length t.parts):Int))=true then ((0:Int)<=(↑x:Int)/\(↑x:Int) < (↑(List.length t.parts):Int))/\szT (List.getD t.parts (Int.toNat (↑x:Int)) (dfl (Ty.st SN.term)))<=n/\if standsT b (List.getD t.parts (Int.toNat (↑x:Int)) (dfl (Ty.st SN.term)))=true then True/\true=standsT b t/\True else inR IntKind.i64 ((↑x:Int)+(1:Int))/\∃(y:Nat),(y<=List.length t.parts/\standsTL b t.parts=standsTL b (List.drop y t.parts))/\List.length t.parts - y < List.length t.parts - x/\(↑x:Int)+(1:Int)=(↑y:Int)/\t=t/\b=b/\t=t/\b=b/\True else if decide (t.kind=(5:Int))=true then if decide (t.pkg=b.pkg)=true then True/\decide (t.name=b.name)=standsT b t/\True else True/\false=standsT b t/\True else True/\false=standsT b t/\True:=by
 have ln:=ht.term_parts.len
 have hz0:=szT_eq t
 simp only [Int.toNat_natCast,eq_self,true_and,and_true]
 rw [oz]
 refine ⟨⟨0,⟨Nat.zero_le _,by rw [List.drop_zero]⟩,rfl⟩,?_⟩
 rintro k ⟨h1,h2⟩
 refine ab (fun h=>?_) (fun h=>?_)
 ·replace h:=Xo h
  have hk:k < t.parts.length:=by omega
  have m:=szT_mem (getD_mem t.parts k (dfl (.st .term)) hk)
  rw [aH t.parts k (dfl (.st .term)) hk] at h2
  simp only [standsTL] at h2
  refine ⟨by omega,by omega,ab (fun f=>?_) (fun f=>?_)⟩
  ·rw [h2,f];rfl
  ·have f:standsT b (t.parts.getD k (dfl (.st .term)))=false:=by simpa only [Bool.not_eq_true] using f
   rw [f,Bool.false_or] at h2
   exact ⟨bc hk ln,k+1,⟨by omega,h2⟩,by omega,by omega⟩
 ·have e:k=t.parts.length:=by
   have:¬((k:Int) < (t.parts.length:Int)):=fun e=>h (Xd e)
   omega
  subst e
  rw [List.drop_length] at h2
  simp only [standsTL] at h2
  rw [h2,Bool.false_or]
  refine ab (fun c5=>ab (fun cp=>?_) (fun cp=>?_)) (fun c5=>?_)
  ·rw [c5,cp];rfl
  ·rw [Bool.eq_false_iff.2 cp,Bool.and_false];rfl
  ·rw [Bool.eq_false_iff.2 c5];rfl
theorem oA (G:Trm→Envt→Shape × Flt) (N:Nat) (t:Trm) (e:Envt) (b:Bndg) (ht:Wf (.st .term) t) (he:Wf (.st .env) e) (hf:fewT t=true) (hb:Wf (.st .bind) b) (hN:sz (G t e).1<=N) (hm:standsT b t=false→G t (bq e [b])=G t e/\G t ⟨e.self,e.types,b ::e.values,e.own⟩=G t e) :
  if (!ir e)=true then True/\true=true/\True else if (!decide (dm t (300:Int)<=(300:Int)))=true then True/\true=true/\True else if (!fv [b])=true then True/\true=true/\True else szT t<=szT t/\if standsT b t=true then True/\true=true/\True else (fewT t=true/\List.length e.values<=(1000000:Nat))/\(List.length e.values<=(1000000000:Nat)/\List.length [b]<=(1000:Nat))/\(fewT t=true/\List.length (e.values++[b])<=(1000000:Nat))/\(List.length [b]=List.length [b]/\(List.length [b]+List.length e.values) *(120:Nat)<=(140737488355328:Nat))/\(fewT t=true/\List.length ([b]++e.values)<=(1000000:Nat))/\sz (G t e).1<=N/\if eqS (G t e).1 (G t (bq e [b])).1=true then if (decide ((G t e).2.err=(G t (bq e [b])).2.err) && (decide ((G t e).2.pos=(G t (bq e [b])).2.pos) && true))=true then sz (G t e).1<=N/\if eqS (G t e).1 (G t {self:=e.self,types:=e.types,values:=[b]++e.values,own:=e.own:Envt}).1=true then if (decide ((G t e).2.err=(G t {self:=e.self,types:=e.types,values:=[b]++e.values,own:=e.own:Envt}).2.err) && (decide ((G t e).2.pos=(G t {self:=e.self,types:=e.types,values:=[b]++e.values,own:=e.own:Envt}).2.pos) && true))=true then True/\true=true/\True else True/\false=true/\True else True/\false=true/\True else True/\false=true/\True else True/\false=true/\True:=by
 refine ab (fun _=>⟨trivial,rfl,trivial⟩) (fun h1=>ab (fun _=>⟨trivial,rfl,trivial⟩) (fun h2=>?_))
 have l1:=vz h1
 refine ab (fun _=>⟨trivial,rfl,trivial⟩) (fun c1=>⟨Nat.le_refl _,ab (fun _=>⟨trivial,rfl,trivial⟩) (fun c2=>?_)⟩)
 obtain ⟨m1,m2⟩:=hm (by simpa only [Bool.not_eq_true] using c2)
 have m2:G t ⟨e.self,e.types,[b]++e.values,e.own⟩=G t e:=m2
 rw [m1,m2]
 refine ⟨⟨hf,by omega⟩,⟨by omega,by simp⟩,⟨hf,?_⟩,⟨rfl,?_⟩,⟨hf,?_⟩,?_⟩
 ·rw [List.length_append];simp only [List.length_cons,List.length_nil];omega
 ·simp only [List.length_cons,List.length_nil];omega
 ·rw [List.length_append];simp only [List.length_cons,List.length_nil];omega
 exact ⟨hN,ab (fun _=>ab (fun _=>⟨hN,ab (fun _=>ab (fun _=>⟨trivial,rfl,trivial⟩) (fun q=>absurd (x9 _ _) q)) (fun q=>absurd (eqS_refl _) q)⟩) (fun q=>absurd (x9 _ _) q)) (fun q=>absurd (eqS_refl _) q)⟩
end Go.AL.Seat
end
section
open Go Go.AL Go.Proofs Go.Shelf Go.Pd
namespace Go.AL.Seat
open Go.Proofs.Tryz
variable [Tabs]
variable [SeatLaid]
theorem lv:ai prog 123 (p1 (.int .u8) fun c=>.ret (.bool (cz c))):=
 bT (ee func123) fun c _ _=>g0 sn a0 func123 (AA c)
theorem lx:ai prog 124 (p1 (.int .u8) fun c=>.ret (.bool (cI c))):=
 bT (ee func124) fun c _ _=>g0 sn a0 func124 (AB c)
theorem yX:ai prog 127 (p1 (.int .u8) fun c=>.ret (.bool (j0 c))):=
 bT (ee func127) fun c _ _=>g0 sn a0 func127 (AD c)
theorem tz:ai prog 125 (p1 (.int .u8) fun c=>.ret (.bool (ej c))):=
 bT (ee func125) fun c _ _=>g0 (sc lv (sc lx (sc yX sn))) a0 func125 (C0 c)
theorem vK:ai prog 166 (pf .str 123 fun s=>.ret (.bool (bQ cz s))):=
 lS (ee func166) fun s hs _=>g0 (sc lv (sc lx (sc tz sn))) ⟨[(4,fun S0=>⟨Nat,fun k=>k<=s.length/\bQ cz s=(s.drop k).all fun c=>ej (bI c),fun k=>[(22,.int .i64 k)],fun _=>[],fun k=>s.length - k⟩)],[],[]⟩ func166 (yA s hs)
theorem vL:ai prog 166 (pf .str 124 fun s=>.ret (.bool (bQ cI s))):=
 lS (ee func166) fun s hs _=>g0 (sc lv (sc lx (sc tz sn))) ⟨[(4,fun S0=>⟨Nat,fun k=>k<=s.length/\bQ cI s=(s.drop k).all fun c=>ej (bI c),fun k=>[(22,.int .i64 k)],fun _=>[],fun k=>s.length - k⟩)],[],[]⟩ func166 (yB s hs)
theorem B1:ai prog 126 (p1 .str fun s=>.ret (.bool (dj s))):=
 bT (ee func126) fun s _ _=>g0 sn a0 func126 (C1 s)
theorem kK:ai prog 100 (p1 .str fun s=>.ret (.bool (aY s))):=
 bT (ee func100) fun s _ _=>g0 (sc vK (sc B1 sn)) a0 func100 (C2 s)
theorem pR:ai prog 103 (p1 .str fun s=>.ret (.bool (ek s))):=
 bT (ee func103) fun s _ _=>g0 (sc vL sn) a0 func103 (AE s)
theorem oB:ai prog 145 (p2 (.lst .str) .str fun a v=>.ret (.int .i64 (bK a v 0))):=
 cr (ee func145) fun a v ha _ _=>g0 sn ⟨[(2,fun S0=>⟨Nat,fun k=>k<=a.length/\bK a v 0=bK (a.drop k) v k,fun k=>[(8,.int .i64 k)],fun _=>[],fun k=>a.length - k⟩)],[],[]⟩ func145 (yC a v ha)
theorem yY:ai prog 110 (p1 .str fun s=>.ret (.bool (gp s))):=
 bT (ee func110) fun s _ _=>g0 sn a0 func110 (AF s)
theorem oC:ai prog 168 (p1 (.lst .str) fun a=>⟨none,none,.fn 226 [.ptr 1 0],[(1,.box (.lst .str a none))]⟩):=
 bT (ee func168) fun a _ _=>g0 sn a0 func168 (yD a)
theorem yZ:ai prog 109 (p1 (.st .shape) fun s=>⟨some (s.parts.length *16<=140737488355328),none,.bool (cN s),[]⟩):=
 bT (ee func109) fun s hs ho=>g0 (sc kK (sc oC (sc (jV) (sc (j8) sn)))) ⟨[(4,fun S0=>⟨Nat,fun k=>k<=s.names.length/\s.names.length=s.parts.length/\cN s=(((s.names.drop k).all aY) && decide s.names.Nodup),fun k=>[(16,.int .i64 k)],fun _=>[],fun k=>s.names.length - k⟩)],[],[]⟩ func109 (AG s hs (ho _ rfl))
theorem B2:ai prog 60 (p1 (.st .shape) fun s=>⟨some (s.parts.length *16<=140737488355328),none,.bool (aq s),[]⟩):=
 bT (ee func60) fun s hs ho=>g0 (sc yZ (sc pR (sc kK (sc yY sn)))) a0 func60 (C3 s hs (ho _ rfl))
theorem oD:aB prog 40:=ee func40
theorem pj (n:Nat) (s:AL.Shape) (hs:Wf (.st .shape) s) (hn:sz s<=n+1) (hb:n<=1000000) (hA:ai prog 40 (pf (.st .shape) 60 fun s=>⟨some (sz s<=n),none,.bool (allS aq s),[]⟩)):ax prog 40 [.st .shape s,.fn 60 []] [] (.ret (.bool (allS aq s))):=
 g0 (sc B2 (sc (hA) sn)) ⟨[(4,fun S0=>⟨Nat,fun k=>k<=s.parts.length/\allS aq s=allL aq (s.parts.drop k),fun k=>[(14,.int .i64 k)],fun _=>[],fun k=>s.parts.length - k⟩)],[],[]⟩ func40 (vA n s hs hn hb)
theorem tA:∀n:Nat,n<=1000000→ai prog 40 (pf (.st .shape) 60 fun s=>⟨some (sz s<=n),none,.bool (allS aq s),[]⟩):=by
 intro n
 induction n with
 | zero=>exact fun _=>lS oD fun a hs ho=>absurd (ho _ rfl) (by have:=fX a;omega)
 | succ n ih=>exact fun hb=>lS oD fun a hs ho=>pj n a hs (ho _ rfl) (by omega) (ih (by omega))
theorem pS:aB prog 42:=ee func42
theorem rl (n:Nat) (s:AL.Shape) (hs:Wf (.st .shape) s) (hn:sz s<=n+1) (ho:allS cZ s=true) (hb:n<=1000000) (hA:ai prog 42 (p1 (.st .shape) fun s=>⟨some (sz s<=n/\allS cZ s=true),none,.st .shape (sortedS s),[]⟩)):ax prog 42 [.st .shape s] [] (.ret (.st .shape (sortedS s))):=
 g0 (sc (kC) (sc (hA) sn)) ⟨[(4,fun S0=>⟨Nat,fun k=>k<=s.parts.length,fun k=>[(21,.int .i64 k)],fun k=>[(18,.box (.row (.int .i64) (bU k++List.replicate (s.parts.length - k) 0)))],fun k=>s.parts.length - k⟩),(11,fun S0=>⟨Nat,fun k=>k<=s.parts.length,fun k=>[(38,.int .i64 k)],fun k=>[(3,.box (.agg [.int .i64 s.kind,.str s.pkg,.str s.name,.lst .str (if s.names=[] then [] else (ak s |>.take k).map (cw s.names)) (some 701),.lst (.st .shape) ((ak s |>.take k).map fun i=>(sortedL s.parts).getD i.toNat dE) (some 702)])),(18,.box (.row (.int .i64) (ak s))),(701,.tail .str (if s.names=[] then [] else (ak s |>.take k).map (cw s.names)).length),(702,.tail (.st .shape) k)],fun k=>s.parts.length - k⟩)],[],[]⟩ func42 (yE n s hs hn ho hb)
theorem vM:∀n:Nat,n<=1000000→ai prog 42 (p1 (.st .shape) fun s=>⟨some (sz s<=n/\allS cZ s=true),none,.st .shape (sortedS s),[]⟩):=by
 intro n
 induction n with
 | zero=>exact fun _=>bT pS fun a hs ho=>absurd (ho _ rfl).1 (by have:=fX a;omega)
 | succ n ih=>exact fun hb=>bT pS fun a hs ho=>rl n a hs (ho _ rfl).1 (ho _ rfl).2 (by omega) (ih (by omega))
theorem fJ:ai prog 39 (p1 (.st .shape) fun s=>.ret (.int .i64 (aF s))):=
 bT (ee func39) fun s _ _=>g0 (sc (pN) (sc (tA 400 (by decide)) sn)) a0 func39 (AH s)
theorem jc:ai prog 24 (p1 (.st .shape) fun s=>.ret (.st .shape (aW s))):=
 bT (ee func24) fun s _ _=>g0 (sc fJ (sc (vM 400 (by decide)) sn)) a0 func24 (C4 s)
theorem xa:aB prog 33:=ee func33
theorem vN (n:Nat) (s:AL.Shape) (m:Int) (hs:Wf (.st .shape) s) (ho:sz s<=n+1/\0<=m/\m<=1000000) (hA:ai prog 33 (p2 (.st .shape) (.int .i64) fun s m=>⟨some (sz s<=n/\0<=m/\m<=1000000),none,.int .i64 (sizeF s m),[]⟩)):ax prog 33 [.st .shape s,.int .i64 m] [] (.ret (.int .i64 (sizeF s m))):=
 g0 (sc (hA) sn) ⟨[(3,fun S0=>⟨Nat × Int,fun x=>x.1<=s.parts.length/\1<=x.2/\x.2<=m+1/\sizeL (s.parts.drop x.1) x.2 m=sizeF s m,fun x=>[(5,.int .i64 x.2),(6,.int .i64 x.1)],fun _=>[],fun x=>s.parts.length - x.1⟩)],[],[]⟩ func33 (C5 n s m hs ho)
theorem B3:∀n:Nat,ai prog 33 (p2 (.st .shape) (.int .i64) fun s m=>⟨some (sz s<=n/\0<=m/\m<=1000000),none,.int .i64 (sizeF s m),[]⟩):=by
 intro n
 induction n with
 | zero=>exact cr xa fun a m _ _ ho=>absurd (ho _ rfl).1 (by have:=fX a;omega)
 | succ n ih=>exact cr xa fun a m ha _ ho=>vN n a m ha (ho _ rfl) ih
theorem pT:aB prog 14:=ee func14
theorem rn (n:Nat) (a b:Shape) (ha:Wf (.st .shape) a) (hb:Wf (.st .shape) b) (hn:sz a<=n+1) (hA:ai prog 14 (p2 (.st .shape) (.st .shape) fun a b=>⟨some (sz a<=n),none,.bool (eqS a b),[]⟩)):ax prog 14 [.st .shape a,.st .shape b] [] (.ret (.bool (eqS a b))):=
 g0 (sc (hA) sn) ⟨[(4,fun S0=>⟨Nat,fun k=>k<=a.names.length/\a.names.length=b.names.length/\a.parts.length=b.parts.length/\eqS a b=(decide (a.names.drop k=b.names.drop k) && eqL a.parts b.parts),fun k=>[(5,.int .i64 k)],fun _=>[],fun k=>a.names.length - k⟩),(9,fun S0=>⟨Nat,fun k=>k<=a.parts.length/\a.parts.length=b.parts.length/\eqS a b=eqL (a.parts.drop k) (b.parts.drop k),fun k=>[(6,.int .i64 k)],fun _=>[],fun k=>a.parts.length - k⟩)],[],[]⟩ func14 (yF n a b ha hb hn)
theorem vO:∀n:Nat,ai prog 14 (p2 (.st .shape) (.st .shape) fun a b=>⟨some (sz a<=n),none,.bool (eqS a b),[]⟩):=by
 intro n
 induction n with
 | zero=>exact cr pT fun a b _ _ ho=>absurd (ho _ rfl) (by have:=fX a;omega)
 | succ n ih=>exact cr pT fun a b ha hb ho=>rn n a b ha hb (ho _ rfl) ih
theorem rq (l:List Bndg) (N:Nat) (hl:Wf (.lst (.st .bind)) l) (hN:∀x∈l,sz x.shape<=N) :ax prog 15 [.lst (.st .bind) l none] [] (.ret (.bool (fv l))):=
 g0 (sc (B3 N) sn) ⟨[(4,fun S0=>⟨Nat,fun k=>k<=l.length/\me (l.drop k)=fv l,fun k=>[(3,.int .i64 k)],fun _=>[],fun k=>l.length - k⟩)],[],[]⟩ func15 (yG l N hl hN)
theorem oE:ai prog 15 (p1 (.lst (.st .bind)) fun l=>.ret (.bool (fv l))):=
 bT (ee func15) fun l hl _=>rq l (szB l) hl (Av l)
theorem tB:ai prog 9 (p1 (.st .env) fun e=>.ret (.bool (ir e))):=
 bT (ee func9) fun e he _=>g0 (sc oE sn) a0 func9 (vB e he)
theorem oF:ai prog 16 (p2 (.st .env) (.lst (.st .bind)) fun e l=>⟨some (e.values.length<=1000000000/\l.length<=1000),none,.st .env (bq e l),[]⟩):=
 cr (ee func16) fun e l he hl ho=>g0 (sc om sn) a0 func16 (C6 e l he hl (ho _ rfl))
theorem pU:aB prog 37:=ee func37
theorem rr (n:Nat) (t:Trm) (m:Int) (hs:Wf (.st .term) t) (hz:szT t<=n+1) (h0:0<=m) (h1:m<=1000000) (hA:ai prog 37 (p2 (.st .term) (.int .i64) fun t m=>⟨some (szT t<=n/\0<=m/\m<=1000000),none,.tup [.int .i64 (countT t m).1,.int .i64 (countT t m).2],[]⟩)):ax prog 37 [.st .term t,.int .i64 m] [] (⟨some (szT t<=n+1/\0<=m/\m<=1000000),none,.tup [.int .i64 (countT t m).1,.int .i64 (countT t m).2],[]⟩):=
 g0 (sc (hA) sn) ⟨[(3,fun S0=>⟨Nat × Int × Int,fun y=>y.1<=t.parts.length/\1<=y.2.1/\y.2.1<=m+1/\0<=y.2.2/\y.2.2+1<=y.2.1/\countL (t.parts.drop y.1) m y.2.1 y.2.2=countL t.parts m 1 0,fun y=>[(6,.int .i64 y.2.1),(7,.int .i64 y.2.2),(15,.int .i64 y.1)],fun _=>[],fun y=>t.parts.length - y.1⟩)],[],[]⟩ func37 (yH n t m hs hz h0 h1)
theorem oG:∀n:Nat,ai prog 37 (p2 (.st .term) (.int .i64) fun t m=>⟨some (szT t<=n/\0<=m/\m<=1000000),none,.tup [.int .i64 (countT t m).1,.int .i64 (countT t m).2],[]⟩)
 | 0=>cr pU fun t m hs _ ho=>absurd (ho _ rfl).1 (by have:=szT_pos t;omega)
 | n+1=>cr pU fun t m hs _ ho=>rr n t m hs (ho _ rfl).1 (ho _ rfl).2.1 (ho _ rfl).2.2 (oG n)
theorem tC:ai prog 171 (pcl .str 100 fun x=>⟨none,none,.bool (!aY x),[]⟩):=
 qW (ee func171) fun x _ ho=>g0 (sc kK sn) a0 func171 (vC x)
theorem tD:ai prog 227 (pfc (.lst .str) 171 100 fun l=>⟨none,none,.int .i64 (bp aY l 0),[]⟩):=
 j7 (ee func227) fun l hl ho=>g0 (sc tC sn) ⟨[(2,fun S0=>⟨Nat,fun k=>k<=l.length/\bp aY (l.drop k) k=bp aY l 0,fun k=>[(8,.int .i64 k)],fun _=>[],fun k=>l.length - k⟩)],[],[]⟩ func227 (vD l hl)
theorem tE:ai prog 170 (pfc (.lst .str) 171 100 fun l=>⟨none,none,.bool (!l.all aY),[]⟩):=
 j7 (ee func170) fun l _ ho=>g0 (sc tD sn) a0 func170 (vE l)
theorem pV:ai prog 102 (pf (.lst .str) 100 fun l=>⟨none,none,.bool (l.all aY),[]⟩):=
 lS (ee func102) fun l _ ho=>g0 (sc tE sn) a0 func102 (AI l)
theorem z6:ai prog 101 (p1 (.lst .str) fun l=>⟨some (l.length *16<=140737488355328),none,.bool (l.all aY && decide l.Nodup),[]⟩):=
 bT (ee func101) fun l _ ho=>g0 (sc oC (sc (jV) (sc pV (sc (j8) sn)))) a0 func101 (AJ l (ho _ rfl))
theorem vP:aB prog 163:=ee func163
theorem pk (n:Nat) (x:Shape)  (ho:sz x<=n) (hA:ai prog 164 (p1 (.st .shape) fun s=>⟨some (sz s<=n),none,.bool (allS bk s),[]⟩)):ax prog 163 [.st .shape x,.ptr 900 0] [(900,.box (.fn 164 []))] (⟨some (sz x<=n),none,.bool (!(allS bk) x),[]⟩):=
 g0 (sc (hA) sn) a0 func163 (vF n x ho)
theorem tF (n:Nat) (hA:ai prog 164 (p1 (.st .shape) fun s=>⟨some (sz s<=n),none,.bool (allS bk s),[]⟩)):ai prog 163 (pcl (.st .shape) 164 fun x=>⟨some (sz x<=n),none,.bool (!(allS bk) x),[]⟩):=
 qW vP fun x _ ho=>pk n x (ho _ rfl) hA
theorem vQ:aB prog 222:=ee func222
theorem pn (n:Nat) (l:List AL.Shape)  (hl:Wf (.lst (.st .shape)) l) (ho:∀x∈l,sz x<=n) (hA:ai prog 164 (p1 (.st .shape) fun s=>⟨some (sz s<=n),none,.bool (allS bk s),[]⟩)):ax prog 222 [.lst (.st .shape) l none,.fn 163 [.ptr 900 0]] [(900,.box (.fn 164 []))] (⟨some (∀x∈l,sz x<=n),none,.int .i64 (bp (allS bk) l 0),[]⟩):=
 g0 (sc ((tF n hA)) sn) ⟨[(2,fun S0=>⟨Nat,fun k=>k<=l.length/\bp (allS bk) (l.drop k) k=bp (allS bk) l 0,fun k=>[(8,.int .i64 k)],fun _=>[],fun k=>l.length - k⟩)],[],[]⟩ func222 (vG n l hl ho)
theorem tG (n:Nat) (hA:ai prog 164 (p1 (.st .shape) fun s=>⟨some (sz s<=n),none,.bool (allS bk s),[]⟩)):ai prog 222 (pfc (.lst (.st .shape)) 163 164 fun l=>⟨some (∀x∈l,sz x<=n),none,.int .i64 (bp (allS bk) l 0),[]⟩):=
 j7 vQ fun l hl ho=>pn n l hl (ho _ rfl) hA
theorem vR:aB prog 162:=ee func162
theorem po (n:Nat) (l:List AL.Shape)  (ho:∀x∈l,sz x<=n) (hA:ai prog 164 (p1 (.st .shape) fun s=>⟨some (sz s<=n),none,.bool (allS bk s),[]⟩)):ax prog 162 [.lst (.st .shape) l none,.fn 163 [.ptr 900 0]] [(900,.box (.fn 164 []))] (⟨some (∀x∈l,sz x<=n),none,.bool (!l.all (allS bk)),[]⟩):=
 g0 (sc ((tG n hA)) sn) a0 func162 (vH n l ho)
theorem tH (n:Nat) (hA:ai prog 164 (p1 (.st .shape) fun s=>⟨some (sz s<=n),none,.bool (allS bk s),[]⟩)):ai prog 162 (pfc (.lst (.st .shape)) 163 164 fun l=>⟨some (∀x∈l,sz x<=n),none,.bool (!l.all (allS bk)),[]⟩):=
 j7 vR fun l _ ho=>po n l (ho _ rfl) hA
theorem B4:aB prog 97:=ee func97
theorem tI (n:Nat) (l:List AL.Shape)  (ho:∀x∈l,sz x<=n) (hA:ai prog 164 (p1 (.st .shape) fun s=>⟨some (sz s<=n),none,.bool (allS bk s),[]⟩)):ax prog 97 [.lst (.st .shape) l none,.fn 164 []] [] (⟨some (∀x∈l,sz x<=n),none,.bool (l.all (allS bk)),[]⟩):=
 g0 (sc ((tH n hA)) sn) a0 func97 (AK n l ho)
theorem z7 (n:Nat) (hA:ai prog 164 (p1 (.st .shape) fun s=>⟨some (sz s<=n),none,.bool (allS bk s),[]⟩)):ai prog 97 (pf (.lst (.st .shape)) 164 fun l=>⟨some (∀x∈l,sz x<=n),none,.bool (l.all (allS bk)),[]⟩):=
 lS B4 fun l _ ho=>tI n l (ho _ rfl) hA
theorem xb:aB prog 164:=ee func164
theorem vS (n:Nat) (s:AL.Shape) (ho:sz s<=n+1) (hE:ai prog 97 (pf (.lst (.st .shape)) 164 fun l=>⟨some (∀x∈l,sz x<=n),none,.bool (l.all (allS bk)),[]⟩)):ax prog 164 [.st .shape s] [] (⟨some (sz s<=n+1),none,.bool (allS bk s),[]⟩):=
 g0 (sc (hE) sn) a0 func164 (C7 n s ho)
theorem tJ:∀n:Nat,ai prog 164 (p1 (.st .shape) fun s=>⟨some (sz s<=n),none,.bool (allS bk s),[]⟩)
 | 0=>bT xb fun s _ ho=>absurd (ho _ rfl) (by have:=fX s;omega)
 | n+1=>bT xb fun s _ ho=>vS n s (ho _ rfl) (z7 n (tJ n))
theorem vT:ai prog 98 (p1 (.st .shape) fun s=>.ret (.bool (decide (aF s=0) && allS bk s))):=
 bT (ee func98) fun s _ _=>g0 (sc fJ (sc (tJ 400) sn)) a0 func98 (yI s)
theorem Cg:ai prog 96 (p1 (.st .term) fun t=>.ret (.agg [.int .i64 (t.names.length:Int),.int .i64 (t.vars.length:Int),.int .i64 (t.shapes.length:Int),.int .i64 (t.parts.length:Int)])):=
 bT (ee func96) fun t _ _=>g0 sn a0 func96 (D0 t)
theorem z8:ai prog 99 (p1 .str fun s=>.ret (.bool (oh s))):=
 bT (ee func99) fun s hs _=>g0 (sc (yg) sn) ⟨[(2,fun S0=>⟨Nat,fun k=>k<=s.length/\(s.all ew)=(s.drop k).all ew,fun k=>[(8,.int .i64 k)],fun _=>[],fun k=>s.length - k⟩)],[],[]⟩ func99 (AM s hs)
theorem ru:ai prog 163 (pcl (.st .shape) 98 fun x=>⟨none,none,.bool (!bN x),[]⟩):=
 qW (ee func163) fun x _ ho=>g0 (sc vT sn) a0 func163 (tn x)
theorem rv:ai prog 222 (pfc (.lst (.st .shape)) 163 98 fun l=>⟨none,none,.int .i64 (bp bN l 0),[]⟩):=
 j7 (ee func222) fun l hl ho=>g0 (sc ru sn) ⟨[(2,fun S0=>⟨Nat,fun k=>k<=l.length/\bp bN (l.drop k) k=bp bN l 0,fun k=>[(8,.int .i64 k)],fun _=>[],fun k=>l.length - k⟩)],[],[]⟩ func222 (tp l hl)
theorem ry:ai prog 162 (pfc (.lst (.st .shape)) 163 98 fun l=>⟨none,none,.bool (!l.all bN),[]⟩):=
 j7 (ee func162) fun l _ ho=>g0 (sc rv sn) a0 func162 (tq l)
theorem vU:ai prog 97 (pf (.lst (.st .shape)) 98 fun l=>⟨none,none,.bool (l.all bN),[]⟩):=
 lS (ee func97) fun l _ ho=>g0 (sc ry sn) a0 func97 (yJ l)
theorem zc:ai prog 57 (p1 (.st .term) fun t=>⟨some (t.names.length<=8796093022208),none,.bool (aj t),[]⟩):=
 bT (ee func57) fun t ht ho=>g0 (sc Cg (sc vU (sc z8 (sc kK (sc z6 (sc pV (sc pR sn))))))) ⟨[],[],[(2,fun S0=>⟨[(34,.bool (!gj t))],[]⟩)]⟩ func57 (AN t ht (ho _ rfl))
theorem tK:aB prog 105:=ee func105
theorem oH (n:Nat) (x:Trm)  (ho:szT x<=n/\fewT x=true) (hA:ai prog 38 (p1 (.st .term) fun t=>⟨some (szT t<=n/\fewT t=true),none,.bool (allT aj t),[]⟩)):ax prog 105 [.st .term x,.ptr 900 0] [(900,.box (.fn 38 []))] (⟨some (szT x<=n/\fewT x=true),none,.bool (!(allT aj) x),[]⟩):=
 g0 (sc (hA) sn) a0 func105 (tt n x ho)
theorem rz (n:Nat) (hA:ai prog 38 (p1 (.st .term) fun t=>⟨some (szT t<=n/\fewT t=true),none,.bool (allT aj t),[]⟩)):ai prog 105 (pcl (.st .term) 38 fun x=>⟨some (szT x<=n/\fewT x=true),none,.bool (!(allT aj) x),[]⟩):=
 qW tK fun x _ ho=>oH n x (ho _ rfl) hA
theorem tL:aB prog 172:=ee func172
theorem oI (n:Nat) (l:List Trm)  (hl:Wf (.lst (.st .term)) l) (ho:∀x∈l,szT x<=n/\fewT x=true) (hA:ai prog 38 (p1 (.st .term) fun t=>⟨some (szT t<=n/\fewT t=true),none,.bool (allT aj t),[]⟩)):ax prog 172 [.lst (.st .term) l none,.fn 105 [.ptr 900 0]] [(900,.box (.fn 38 []))] (⟨some (∀x∈l,szT x<=n/\fewT x=true),none,.int .i64 (bp (allT aj) l 0),[]⟩):=
 g0 (sc ((rz n hA)) sn) ⟨[(2,fun S0=>⟨Nat,fun k=>k<=l.length/\bp (allT aj) (l.drop k) k=bp (allT aj) l 0,fun k=>[(8,.int .i64 k)],fun _=>[],fun k=>l.length - k⟩)],[],[]⟩ func172 (tu n l hl ho)
theorem rA (n:Nat) (hA:ai prog 38 (p1 (.st .term) fun t=>⟨some (szT t<=n/\fewT t=true),none,.bool (allT aj t),[]⟩)):ai prog 172 (pfc (.lst (.st .term)) 105 38 fun l=>⟨some (∀x∈l,szT x<=n/\fewT x=true),none,.int .i64 (bp (allT aj) l 0),[]⟩):=
 j7 tL fun l hl ho=>oI n l hl (ho _ rfl) hA
theorem tM:aB prog 104:=ee func104
theorem oJ (n:Nat) (l:List Trm)  (ho:∀x∈l,szT x<=n/\fewT x=true) (hA:ai prog 38 (p1 (.st .term) fun t=>⟨some (szT t<=n/\fewT t=true),none,.bool (allT aj t),[]⟩)):ax prog 104 [.lst (.st .term) l none,.fn 105 [.ptr 900 0]] [(900,.box (.fn 38 []))] (⟨some (∀x∈l,szT x<=n/\fewT x=true),none,.bool (!l.all (allT aj)),[]⟩):=
 g0 (sc ((rA n hA)) sn) a0 func104 (tv n l ho)
theorem rB (n:Nat) (hA:ai prog 38 (p1 (.st .term) fun t=>⟨some (szT t<=n/\fewT t=true),none,.bool (allT aj t),[]⟩)):ai prog 104 (pfc (.lst (.st .term)) 105 38 fun l=>⟨some (∀x∈l,szT x<=n/\fewT x=true),none,.bool (!l.all (allT aj)),[]⟩):=
 j7 tM fun l _ ho=>oJ n l (ho _ rfl) hA
theorem zd:aB prog 58:=ee func58
theorem rC (n:Nat) (l:List Trm)  (ho:∀x∈l,szT x<=n/\fewT x=true) (hA:ai prog 38 (p1 (.st .term) fun t=>⟨some (szT t<=n/\fewT t=true),none,.bool (allT aj t),[]⟩)):ax prog 58 [.lst (.st .term) l none,.fn 38 []] [] (⟨some (∀x∈l,szT x<=n/\fewT x=true),none,.bool (l.all (allT aj)),[]⟩):=
 g0 (sc ((rB n hA)) sn) a0 func58 (yK n l ho)
theorem vV (n:Nat) (hA:ai prog 38 (p1 (.st .term) fun t=>⟨some (szT t<=n/\fewT t=true),none,.bool (allT aj t),[]⟩)):ai prog 58 (pf (.lst (.st .term)) 38 fun l=>⟨some (∀x∈l,szT x<=n/\fewT x=true),none,.bool (l.all (allT aj)),[]⟩):=
 lS zd fun l _ ho=>rC n l (ho _ rfl) hA
theorem pW:aB prog 38:=ee func38
theorem rD (n:Nat) (t:Trm) (ho:szT t<=n+1/\fewT t=true) (hE:ai prog 58 (pf (.lst (.st .term)) 38 fun l=>⟨some (∀x∈l,szT x<=n/\fewT x=true),none,.bool (l.all (allT aj)),[]⟩)):ax prog 38 [.st .term t] [] (⟨some (szT t<=n+1/\fewT t=true),none,.bool (allT aj t),[]⟩):=
 g0 (sc zc (sc (hE) sn)) a0 func38 (yL n t ho)
theorem oK:∀n:Nat,ai prog 38 (p1 (.st .term) fun t=>⟨some (szT t<=n/\fewT t=true),none,.bool (allT aj t),[]⟩)
 | 0=>bT pW fun t _ ho=>absurd (ho _ rfl).1 (by have:=szT_pos t;omega)
 | n+1=>bT pW fun t _ ho=>rD n t (ho _ rfl) (vV n (oK n))
theorem rE (x:Trm) (ho:fewT x=true) :ax prog 21 [.st .term x] [] (⟨some (fewT x=true),none,.int .i64 (di x),[]⟩):=
 g0 (sc (oG (szT x)) (sc (oK (szT x)) sn)) a0 func21 (yM x ho)
theorem vW:ai prog 21 (p1 (.st .term) fun t=>⟨some (fewT t=true),none,.int .i64 (di t),[]⟩):=
 bT (ee func21) fun t _ ho=>rE t (ho _ rfl)
theorem tN:aB prog 27:=ee func27
theorem tO (n:Nat) (s:Trm) (m:Int) (hs:Wf (.st .term) s) (ho:szT s<=n+1/\0<=m/\m<=1000000) (hA:ai prog 27 (p2 (.st .term) (.int .i64) fun s m=>⟨some (szT s<=n/\0<=m/\m<=1000000),none,.int .i64 (dm s m),[]⟩)):ax prog 27 [.st .term s,.int .i64 m] [] (.ret (.int .i64 (dm s m))):=
 g0 (sc (hA) sn) ⟨[(3,fun S0=>⟨Nat × Int,fun x=>x.1<=s.parts.length/\1<=x.2/\x.2<=m+1/\sizeTL (s.parts.drop x.1) x.2 m=dm s m,fun x=>[(5,.int .i64 x.2),(6,.int .i64 x.1)],fun _=>[],fun x=>s.parts.length - x.1⟩)],[],[]⟩ func27 (AO n s m hs ho)
theorem ze:∀n:Nat,ai prog 27 (p2 (.st .term) (.int .i64) fun s m=>⟨some (szT s<=n/\0<=m/\m<=1000000),none,.int .i64 (dm s m),[]⟩):=by
 intro n
 induction n with
 | zero=>exact cr tN fun a m _ _ ho=>absurd (ho _ rfl).1 (by have:=szT_pos a;omega)
 | succ n ih=>exact cr tN fun a m ha _ ho=>tO n a m ha (ho _ rfl) ih
theorem vX:ai prog 273 (p3 (.st .shape) (.st .shape) .bool fun a b f=>.ret (.bool (decide (f=decide (a.kind=6))))):=
 A5 (ee func273) fun a b f _ _ _ _=>g0 sn a0 func273 (yN a b f)
theorem zf:ai prog 251 (p0 ⟨none,none,.ptr 2 0,[(2,.box (.agg [.fn 273 []]))]⟩):=
 Cu (ee func251) (g0 sn a0 func251 (AP))
theorem pX:ai prog 274 (p2 (.st .shape) .str fun s m=>⟨some (aq s=true),none,.pt .shape (aZ s m),[]⟩):=
 cr (ee func274) fun s m hs _ ho=>g0 (sc oB sn) a0 func274 (AQ s m hs (ho _ rfl))
theorem vY:ai prog 275 (vo fun m s=>⟨some (aq s=true),none,.bool (aZ s m).isNone,[]⟩):=
 yp (ee func275) fun m s ho=>g0 (sc pX sn) a0 func275 (yO m s (ho _ rfl))
theorem zg:ai prog 250 (p2 (.st .shape) (.st .shape) fun a b=>.ret (.bool (decide (aF a=0) && decide (aF b=0)))):=
 cr (ee func250) fun a b _ _ _=>g0 (sc fJ sn) a0 func250 (AR a b)
theorem B5:ai prog 227 (kF 275 fun l s=>⟨some (aq s=true),none,.int .i64 (bp (fun m=>(aZ s m).isSome) l 0),[]⟩):=
 mf (ee func227) fun l s hl ho=>g0 (sc vY sn) ⟨[(2,fun S0=>⟨Nat,fun k=>k<=l.length/\bp (fun m=>(aZ s m).isSome) (l.drop k) k=bp (fun m=>(aZ s m).isSome) l 0,fun k=>[(8,.int .i64 k)],fun _=>[],fun k=>l.length - k⟩)],[],[]⟩ func227 (C8 l s hl (ho _ rfl))
theorem B6:ai prog 170 (kF 275 fun l s=>⟨some (aq s=true),none,.bool (!l.all (fun m=>(aZ s m).isSome)),[]⟩):=
 mf (ee func170) fun l s _ ho=>g0 (sc B5 sn) a0 func170 (C9 l s (ho _ rfl))
theorem tP:aB prog 252:=ee func252
theorem tQ (n:Nat) (a b:Shape) (ha:Wf (.st .shape) a) (hb:Wf (.st .shape) b) (hn:sz a+sz b<=n+1) (oa:allS aq a=true) (ob:allS aq b=true) (hA:ai prog 252 (r8 273 fun a b=>⟨some (sz a+sz b<=n/\allS aq a=true/\allS aq b=true),none,.bool (aX n a b),[]⟩)):ax prog 252 [.ptr 900 0,.st .shape a,.st .shape b] [(900,.box (.agg [.fn 273 []]))] (⟨some (sz a+sz b<=n+1/\allS aq a=true/\allS aq b=true),none,.bool (aX (n+1) a b),[]⟩):=
 g0 (sc vX (sc pX (sc B6 (sc (hA) sn)))) ⟨[(7,fun S0=>⟨Nat,fun k=>k<=a.names.length/\dA (aX n) (decide (a.kind=7)) b (a.names.drop k) (a.parts.drop k)=dA (aX n) (decide (a.kind=7)) b a.names a.parts,fun k=>[(54,.int .i64 k)],fun _=>[],fun k=>a.names.length - k⟩),(17,fun S0=>⟨Nat,fun k=>k<=a.parts.length/\aX (n+1) a b=iA (aX n) (decide (a.kind=8)) (a.parts.drop k) (b.parts.drop k),fun k=>[(117,.int .i64 k)],fun _=>[],fun k=>a.parts.length - k⟩)],[],[(5,fun S0=>⟨[(42,.bool (decide (a.kind=6) || decide (a.kind=7)))],[]⟩)]⟩ func252 (AT n a b ha hb hn oa ob)
theorem pY:∀n:Nat,ai prog 252 (r8 273 fun a b=>⟨some (sz a+sz b<=n/\allS aq a=true/\allS aq b=true),none,.bool (aX n a b),[]⟩)
 | 0=>pP tP fun a b ha hb ho=>absurd (fX a) (by have:=(ho _ rfl).1;omega)
 | n+1=>pP tP fun a b ha hb ho=>tQ n a b ha hb (ho _ rfl).1 (ho _ rfl).2.1 (ho _ rfl).2.2 (pY n)
theorem B7:ai prog 207 (p2 (.st .shape) (.st .shape) fun a b=>.ret (.bool (kD a b))):=
 cr (ee func207) fun a b ha hb _=>g0 (sc zg (sc zf (sc (pY 800) sn))) a0 func207 (Ca a b ha hb)
theorem vZ (k:Nam) (v:Shape)  :ax prog 277 [.ptr 900 0,.st .nm k,.st .shape v] [(900,.box (.agg [.nilm]))] (⟨none,none,.tup [],[(900,.box (.map 12)),(12,.map (.st .nm) (.st .shape) (dG ([]:List (Nam × Shape)) k v))]⟩):=
 g0 sn a0 func277 (Cb k v)
theorem tR:ai prog 277 (vp fun m k v=>match m with | none=>⟨none,none,.tup [],[(900,.box (.map 12)),(12,.map (.st .nm) (.st .shape) (dG ([]:List (Nam × Shape)) k v))]⟩ | some m=>⟨none,none,.tup [],[(901,.map (.st .nm) (.st .shape) (dG m k v))]⟩):=
 yq (ee func277) (fun k v=>vZ k v) fun m k v=>g0 sn a0 func277 (Cc m k v)
theorem w8 (k:Nam)  :ax prog 276 [.ptr 900 0,.st .nm k] [(900,.box (.agg [.nilm]))] (.ret (.tup [.st .shape ((b6 [] k.pkg k.name).getD ao),.bool (b6 [] k.pkg k.name).isSome])):=
 g0 sn a0 func276 (Cd k)
theorem tS:ai prog 276 (vq fun m k=>.ret (.tup [.st .shape ((b6 (m.getD []) k.pkg k.name).getD ao),.bool (b6 (m.getD []) k.pkg k.name).isSome])):=
 yr (ee func276) (fun k=>w8 k) fun m k=>g0 sn a0 func276 (Ce m k)
theorem tT (n:Nat) (s:AL.Shape) (hs:Wf (.st .shape) s) (hn:sz s<=n+1) (h4:n+1<=400) (os:allS aq s=true) (hA:ai prog 253 (kH fun m s=>⟨some (sz s<=n/\n<=400/\allS aq s=true),none,.tup [.st .shape ((fillS (b6 (m.getD [])) s).getD ao),.bool (fillS (b6 (m.getD [])) s).isSome],[]⟩)):ax prog 253 [.st .shape s,.ptr 900 0] [(900,.box (.agg [.nilm]))] (⟨some (sz s<=(n+1)/\(n+1)<=400/\allS aq s=true),none,.tup [.st .shape ((fillS (b6 []) s).getD ao),.bool (fillS (b6 []) s).isSome],[]⟩):=
 g0 (sc tS (sc (hA) (sc (lu) sn))) ⟨[(5,fun S0=>⟨Nat × List AL.Shape,fun x=>x.1<=s.parts.length/\x.2.length=x.1/\fillL (b6 []) s.parts=(fillL (b6 []) (s.parts.drop x.1)).map (x.2++ ·),fun x=>[(30,.int .i64 x.1),(6,.lst (.st .shape) x.2 (some 26))],fun x=>[(26,.tail (.st .shape) x.2.length)],fun x=>s.parts.length - x.1⟩)],[],[]⟩ func253 (AU n s hs hn h4 os)
theorem tU:aB prog 253:=ee func253
theorem tV (n:Nat) (m:List (Nam × Shape)) (s:AL.Shape) (hs:Wf (.st .shape) s) (hn:sz s<=n+1) (h4:n+1<=400) (os:allS aq s=true) (hA:ai prog 253 (kH fun m s=>⟨some (sz s<=n/\n<=400/\allS aq s=true),none,.tup [.st .shape ((fillS (b6 (m.getD [])) s).getD ao),.bool (fillS (b6 (m.getD [])) s).isSome],[]⟩)):ax prog 253 [.st .shape s,.ptr 900 0] [(900,.box (.map 901)),(901,.map (.st .nm) (.st .shape) m)] (⟨some (sz s<=(n+1)/\(n+1)<=400/\allS aq s=true),none,.tup [.st .shape ((fillS (b6 m) s).getD ao),.bool (fillS (b6 m) s).isSome],[]⟩):=
 g0 (sc tS (sc (hA) (sc (lu) sn))) ⟨[(5,fun S0=>⟨Nat × List AL.Shape,fun x=>x.1<=s.parts.length/\x.2.length=x.1/\fillL (b6 m) s.parts=(fillL (b6 m) (s.parts.drop x.1)).map (x.2++ ·),fun x=>[(30,.int .i64 x.1),(6,.lst (.st .shape) x.2 (some 26))],fun x=>[(26,.tail (.st .shape) x.2.length)],fun x=>s.parts.length - x.1⟩)],[],[]⟩ func253 (AW n m s hs hn h4 os)
theorem jt:∀n:Nat,ai prog 253 (kH fun m s=>⟨some (sz s<=n/\n<=400/\allS aq s=true),none,.tup [.st .shape ((fillS (b6 (m.getD [])) s).getD ao),.bool (fillS (b6 (m.getD [])) s).isSome],[]⟩)
 | 0=>ot tU (fun s hs ho=>absurd (fX s) (by have:=(ho _ rfl).1;omega)) (fun m s hs ho=>absurd (fX s) (by have:=(ho _ rfl).1;omega))
 | n+1=>ot tU (fun s hs ho=>tT n s hs (ho _ rfl).1 (ho _ rfl).2.1 (ho _ rfl).2.2 (jt n)) (fun m s hs ho=>tV n m s hs (ho _ rfl).1 (ho _ rfl).2.1 (ho _ rfl).2.2 (jt n))
theorem rF   :ax prog 254 [.lst (.st .bind) [] none] [] (⟨none,none,.ptr 7 0,[(7,.box (.agg [.nilm]))]⟩):=
 g0 (sc tR sn) ⟨[(3,fun S0=>⟨Nat,fun _=>True,fun _=>[(10,.int .i64 0)],fun _=>[],fun _=>0⟩)],[],[]⟩ func254 (yP)
theorem oL:ai prog 254 (ou ⟨none,none,.ptr 7 0,[(7,.box (.agg [.nilm]))]⟩ fun b r=>⟨none,none,.ptr 7 0,[(7,.box (.map 701)),(701,.map (.st .nm) (.st .shape) (gl (b ::r)))]⟩):=
 td (ee func254) rF fun b r hl=>g0 (sc tR sn) ⟨[(3,fun S0=>⟨Nat × List (Nam × Shape),fun x=>x.1<=(b ::r).length/\mg ((b ::r).drop x.1) x.2=gl (b ::r),fun x=>[(10,.int .i64 x.1)],fun x=>[(7,.box (.map 701)),(701,.map (.st .nm) (.st .shape) x.2)],fun x=>(b ::r).length - x.1⟩)],[(200003,[1,13022,701])],[]⟩ func254 (yQ b r hl)
theorem oM (s:AL.Shape) (hs:Wf (.st .shape) s) :ax prog 208 [.st .shape s,.lst (.st .bind) [] none] [] (.ret (.tup [.st .shape (au s []).1,.int .i64 (au s []).2])):=
 g0 (sc fJ (sc oL (sc (jt 400) (sc jc sn)))) a0 func208 (tw s hs)
theorem tW:ai prog 208 (p2 (.st .shape) (.lst (.st .bind)) fun s l=>.ret (.tup [.st .shape (au s l).1,.int .i64 (au s l).2])):=
 cr (ee func208) fun s l hs hl _=>match l,hl with | [],_=>oM s hs | b ::r,hl=>g0 (sc fJ (sc oL (sc (jt 400) (sc jc sn)))) a0 func208 (vI s b r hs hl)
theorem rG:ai prog 53 (p1 (.int .i64) fun k=>.ret (.st .shape (ofK k))):=
 bT (ee func53) fun k _ _=>g0 sn a0 func53 (D1 k)
theorem dx:ai prog 29 (p2 (.int .i64) (.int .i64) fun e a=>.ret (.agg [.int .i64 e,.int .i64 a])):=
 cr (ee func29) fun e a _ _ _=>g0 sn a0 func29 (yR e a)
theorem zh:ai prog 77 (p3 (.lst (.st .bind)) .str .str fun l o m=>.ret (.tup [.st .shape ((aO l o m).elim ao aW),.bool (aO l o m).isSome])):=
 A5 (ee func77) fun l o m hl _ _ _=>g0 (sc jc sn) ⟨[(2,fun S0=>⟨Nat,fun k=>k<=l.length/\aO l o m=aO (l.take k) o m,fun k=>[(8,.int .i64 ((k:Int) - 1))],fun _=>[],fun k=>k⟩)],[],[]⟩ func77 (AX l o m hl)
theorem pZ:aB prog 30:=ee func30
theorem rH (n:Nat) (t:Trm) (e:Envt) (ht:Wf (.st .term) t) (he:Wf (.st .env) e) (hz:szT t<=n+1) (hf:allT aj t=true) (hv:e.values.length+4096 *szT t<=100000000) (hP:ai prog 49 (p2 (.st .term) (.st .env) fun t e=>⟨some (szT t<=n+1/\allT aj t=true/\e.values.length+4096 *szT t<=100000000),none,.tup [.st .shape (an (aa n) t e).1,.agg [.int .i64 (an (aa n) t e).2.err,.int .i64 (an (aa n) t e).2.pos]],[]⟩)):ax prog 30 [.st .term t,.st .env e] [] (⟨some (szT t<=n+1/\allT aj t=true/\e.values.length+4096 *szT t<=100000000),none,.tup [.st .shape (aa (n+1) t e).1,.agg [.int .i64 (aa (n+1) t e).2.err,.int .i64 (aa (n+1) t e).2.pos]],[]⟩):=
 g0 (sc (hP) (sc fJ (sc jc (sc dx sn)))) a0 func30 (yS n t e ht he hz hf hv)
theorem B8:aB prog 144:=ee func144
theorem tX (n:Nat) (t:Trm) (w:Shape) (e:Envt) (ht:Wf (.st .term) t) (hw:Wf (.st .shape) w) (he:Wf (.st .env) e) (hz:szT t<=n) (hf:allT aj t=true) (hv:e.values.length+4096 *szT t<=100000000) (hA:ai prog 30 (p2 (.st .term) (.st .env) fun t e=>⟨some (szT t<=n/\allT aj t=true/\e.values.length+4096 *szT t<=100000000),none,.tup [.st .shape (aa n t e).1,.agg [.int .i64 (aa n t e).2.err,.int .i64 (aa n t e).2.pos]],[]⟩)):ax prog 144 [.st .term t,.st .shape w,.st .env e] [] (⟨some (szT t<=n/\allT aj t=true/\e.values.length+4096 *szT t<=100000000),none,.agg [.int .i64 (ay (aa n) t w e).err,.int .i64 (ay (aa n) t w e).pos],[]⟩):=
 g0 (sc (hA) (sc B7 (sc dx sn))) a0 func144 (AY n t w e ht hw he hz hf hv)
theorem zi (n:Nat) (hA:ai prog 30 (p2 (.st .term) (.st .env) fun t e=>⟨some (szT t<=n/\allT aj t=true/\e.values.length+4096 *szT t<=100000000),none,.tup [.st .shape (aa n t e).1,.agg [.int .i64 (aa n t e).2.err,.int .i64 (aa n t e).2.pos]],[]⟩)):ai prog 144 (p3 (.st .term) (.st .shape) (.st .env) fun t w e=>⟨some (szT t<=n/\allT aj t=true/\e.values.length+4096 *szT t<=100000000),none,.agg [.int .i64 (ay (aa n) t w e).err,.int .i64 (ay (aa n) t w e).pos],[]⟩):=
 A5 B8 fun t w e ht hw he ho=>tX n t w e ht hw he (ho _ rfl).1 (ho _ rfl).2.1 (ho _ rfl).2.2 hA
theorem zj:aB prog 79:=ee func79
theorem rI (n:Nat) (t:Trm) (e:Envt) (ht:Wf (.st .term) t) (he:Wf (.st .env) e) (hp:0 < t.parts.length) (hz:szT t<=n+1) (hf:allT aj t=true) (hv:e.values.length+4096 *szT t<=100000000) (hA:ai prog 30 (p2 (.st .term) (.st .env) fun t e=>⟨some (szT t<=n/\allT aj t=true/\e.values.length+4096 *szT t<=100000000),none,.tup [.st .shape (aa n t e).1,.agg [.int .i64 (aa n t e).2.err,.int .i64 (aa n t e).2.pos]],[]⟩)):ax prog 79 [.st .term t,.st .env e] [] (⟨some (0 < t.parts.length/\szT t<=n+1/\allT aj t=true/\e.values.length+4096 *szT t<=100000000),none,.tup [.st .shape (bO (aa n) t e).1,.agg [.int .i64 (bO (aa n) t e).2.err,.int .i64 (bO (aa n) t e).2.pos]],[]⟩):=
 g0 (sc (hA) (sc oB (sc dx sn))) a0 func79 (yT n t e ht he hp hz hf hv)
theorem w9 (n:Nat) (hA:ai prog 30 (p2 (.st .term) (.st .env) fun t e=>⟨some (szT t<=n/\allT aj t=true/\e.values.length+4096 *szT t<=100000000),none,.tup [.st .shape (aa n t e).1,.agg [.int .i64 (aa n t e).2.err,.int .i64 (aa n t e).2.pos]],[]⟩)):ai prog 79 (p2 (.st .term) (.st .env) fun t e=>⟨some (0 < t.parts.length/\szT t<=n+1/\allT aj t=true/\e.values.length+4096 *szT t<=100000000),none,.tup [.st .shape (bO (aa n) t e).1,.agg [.int .i64 (bO (aa n) t e).2.err,.int .i64 (bO (aa n) t e).2.pos]],[]⟩):=
 cr zj fun t e ht he ho=>rI n t e ht he (ho _ rfl).1 (ho _ rfl).2.1 (ho _ rfl).2.2.1 (ho _ rfl).2.2.2 hA
theorem wa:ai prog 146 (p2 (.st .term) (.st .env) fun t e=>⟨some (t.shapes.length<=1000000),none,.tup [.lst (.st .shape) (ae e.types t.pos t.shapes).1 (some 702),.agg [.int .i64 (ae e.types t.pos t.shapes).2.err,.int .i64 (ae e.types t.pos t.shapes).2.pos]],[(702,.tail (.st .shape) (ae e.types t.pos t.shapes).1.length)]⟩):=
 cr (ee func146) fun t e ht he ho=>g0 (sc tW (sc dx sn)) ⟨[(3,fun S0=>⟨Nat × List AL.Shape,fun x=>x.1<=t.shapes.length/\x.2.length=x.1/\((ae e.types t.pos (t.shapes.drop x.1)).2.err=0→ae e.types t.pos t.shapes=(x.2++(ae e.types t.pos (t.shapes.drop x.1)).1,cU))/\(¬(ae e.types t.pos (t.shapes.drop x.1)).2.err=0→ae e.types t.pos t.shapes=ae e.types t.pos (t.shapes.drop x.1)),fun x=>[(14,.int .i64 x.1),(6,.lst (.st .shape) x.2 (some 701))],fun x=>[(701,.tail (.st .shape) x.2.length)],fun x=>t.shapes.length - x.1⟩)],[(300010,[701,702])],[]⟩ func146 (yU t e ht he (ho _ rfl))
theorem B9:aB prog 78:=ee func78
theorem tY (n:Nat) (t:Trm) (e:Envt) (ht:Wf (.st .term) t) (he:Wf (.st .env) e) (hp:0 < t.parts.length) (hz:szT t<=n+1) (hf:allT aj t=true) (hv:e.values.length+4096 *szT t<=100000000) (hA:ai prog 30 (p2 (.st .term) (.st .env) fun t e=>⟨some (szT t<=n/\allT aj t=true/\e.values.length+4096 *szT t<=100000000),none,.tup [.st .shape (aa n t e).1,.agg [.int .i64 (aa n t e).2.err,.int .i64 (aa n t e).2.pos]],[]⟩)) (hF:ai prog 144 (p3 (.st .term) (.st .shape) (.st .env) fun t w e=>⟨some (szT t<=n/\allT aj t=true/\e.values.length+4096 *szT t<=100000000),none,.agg [.int .i64 (ay (aa n) t w e).err,.int .i64 (ay (aa n) t w e).pos],[]⟩)):ax prog 78 [.st .term t,.st .env e] [] (⟨some (0 < t.parts.length/\szT t<=n+1/\allT aj t=true/\e.values.length+4096 *szT t<=100000000),none,.tup [.st .shape (bL (aa n) t e).1,.agg [.int .i64 (bL (aa n) t e).2.err,.int .i64 (bL (aa n) t e).2.pos]],[]⟩):=
 g0 (sc (hA) (sc (hF) (sc rG (sc dx sn)))) ⟨[(8,fun S0=>⟨Nat,fun k=>k+1<=t.parts.length/\((aa n (t.parts.getD 0 aA) e).1.kind=4→cn (aa n) e (ofK 4) (t.parts.drop 1)=cn (aa n) e (ofK 4) (t.parts.drop (k+1)))/\(¬(aa n (t.parts.getD 0 aA) e).1.kind=4→dB (aa n) e (t.parts.drop 1) (aa n (t.parts.getD 0 aA) e).1.parts=dB (aa n) e (t.parts.drop (k+1)) ((aa n (t.parts.getD 0 aA) e).1.parts.drop k)),fun k=>[(54,.int .i64 k)],fun _=>[],fun k=>t.parts.length - k⟩)],[],[(5,fun S0=>⟨[(45,.bool (!decide ((aa n (t.parts.getD 0 aA) e).1.kind=4) && (!decide ((aa n (t.parts.getD 0 aA) e).1.kind=8) || !decide ((aa n (t.parts.getD 0 aA) e).1.parts.length=t.parts.length))))],[]⟩)]⟩ func78 (AZ n t e ht he hp hz hf hv)
theorem zk (n:Nat) (hA:ai prog 30 (p2 (.st .term) (.st .env) fun t e=>⟨some (szT t<=n/\allT aj t=true/\e.values.length+4096 *szT t<=100000000),none,.tup [.st .shape (aa n t e).1,.agg [.int .i64 (aa n t e).2.err,.int .i64 (aa n t e).2.pos]],[]⟩)) (hF:ai prog 144 (p3 (.st .term) (.st .shape) (.st .env) fun t w e=>⟨some (szT t<=n/\allT aj t=true/\e.values.length+4096 *szT t<=100000000),none,.agg [.int .i64 (ay (aa n) t w e).err,.int .i64 (ay (aa n) t w e).pos],[]⟩)):ai prog 78 (p2 (.st .term) (.st .env) fun t e=>⟨some (0 < t.parts.length/\szT t<=n+1/\allT aj t=true/\e.values.length+4096 *szT t<=100000000),none,.tup [.st .shape (bL (aa n) t e).1,.agg [.int .i64 (bL (aa n) t e).2.err,.int .i64 (bL (aa n) t e).2.pos]],[]⟩):=
 cr B9 fun t e ht he ho=>tY n t e ht he (ho _ rfl).1 (ho _ rfl).2.1 (ho _ rfl).2.2.1 (ho _ rfl).2.2.2 hA hF
theorem Ch:aB prog 80:=ee func80
theorem wb (n:Nat) (t:Trm) (e:Envt) (ht:Wf (.st .term) t) (he:Wf (.st .env) e) (hp:0 < t.parts.length) (hz:szT t<=n+1) (hf:allT aj t=true) (hv:e.values.length+4096 *szT t<=100000000) (hF:ai prog 144 (p3 (.st .term) (.st .shape) (.st .env) fun t w e=>⟨some (szT t<=n/\allT aj t=true/\e.values.length+4096 *szT t<=100000000),none,.agg [.int .i64 (ay (aa n) t w e).err,.int .i64 (ay (aa n) t w e).pos],[]⟩)):ax prog 80 [.st .term t,.st .env e] [] (⟨some (0 < t.parts.length/\szT t<=n+1/\allT aj t=true/\e.values.length+4096 *szT t<=100000000),none,.tup [.st .shape (cA (aa n) t e).1,.agg [.int .i64 (cA (aa n) t e).2.err,.int .i64 (cA (aa n) t e).2.pos]],[]⟩):=
 g0 (sc (hF) (sc jc (sc dx sn))) ⟨[(4,fun S0=>⟨Nat × Option Shape,fun x=>x.1<=e.own.length/\(x.2=none→cK e.own t.name=cK (e.own.take x.1) t.name)/\(∀s,x.2=some s→cK e.own t.name=some s),fun x=>[(8,.int .i64 ((x.1:Int) - 1)),(7,.bool x.2.isSome)],fun x=>[(6,.box (.st .shape (x.2.elim ao aW)))],fun x=>x.1⟩)],[],[]⟩ func80 (Cf n t e ht he hp hz hf hv)
theorem Ba (n:Nat) (hF:ai prog 144 (p3 (.st .term) (.st .shape) (.st .env) fun t w e=>⟨some (szT t<=n/\allT aj t=true/\e.values.length+4096 *szT t<=100000000),none,.agg [.int .i64 (ay (aa n) t w e).err,.int .i64 (ay (aa n) t w e).pos],[]⟩)):ai prog 80 (p2 (.st .term) (.st .env) fun t e=>⟨some (0 < t.parts.length/\szT t<=n+1/\allT aj t=true/\e.values.length+4096 *szT t<=100000000),none,.tup [.st .shape (cA (aa n) t e).1,.agg [.int .i64 (cA (aa n) t e).2.err,.int .i64 (cA (aa n) t e).2.pos]],[]⟩):=
 cr Ch fun t e ht he ho=>wb n t e ht he (ho _ rfl).1 (ho _ rfl).2.1 (ho _ rfl).2.2.1 (ho _ rfl).2.2.2 hF
theorem zl:aB prog 81:=ee func81
theorem rJ (n:Nat) (t:Trm) (e:Envt) (ht:Wf (.st .term) t) (he:Wf (.st .env) e) (hk:t.kind=6∨t.kind=11∨t.kind=12∨t.kind=13∨t.kind=15) (hz:szT t<=n+1) (hf:allT aj t=true) (hv:e.values.length+4096 *szT t<=100000000) (hA:ai prog 30 (p2 (.st .term) (.st .env) fun t e=>⟨some (szT t<=n/\allT aj t=true/\e.values.length+4096 *szT t<=100000000),none,.tup [.st .shape (aa n t e).1,.agg [.int .i64 (aa n t e).2.err,.int .i64 (aa n t e).2.pos]],[]⟩)) (hF:ai prog 144 (p3 (.st .term) (.st .shape) (.st .env) fun t w e=>⟨some (szT t<=n/\allT aj t=true/\e.values.length+4096 *szT t<=100000000),none,.agg [.int .i64 (ay (aa n) t w e).err,.int .i64 (ay (aa n) t w e).pos],[]⟩)):ax prog 81 [.st .term t,.st .env e] [] (⟨some ((t.kind=6∨t.kind=11∨t.kind=12∨t.kind=13∨t.kind=15)/\szT t<=n+1/\allT aj t=true/\e.values.length+4096 *szT t<=100000000),none,.tup [.st .shape (aC (aa n) t e).1,.agg [.int .i64 (aC (aa n) t e).2.err,.int .i64 (aC (aa n) t e).2.pos]],[]⟩):=
 g0 (sc (hA) (sc (hF) (sc wa (sc rG (sc oF sn))))) ⟨[(8,fun S0=>⟨Nat × Envt,fun x=>x.1<=t.names.length/\x.2.values.length=e.values.length+x.1/\bq x.2 (dM (t.names.drop x.1) ((ae e.types t.pos t.shapes).1.drop x.1))=bq e (dM t.names (ae e.types t.pos t.shapes).1),fun x=>[(42,.int .i64 x.1)],fun x=>[(3,.box (.st .env x.2))],fun x=>t.names.length - x.1⟩),(16,fun S0=>⟨Nat,fun k=>k<=t.parts.length/\cn (aa n) e ((ae e.types t.pos t.shapes).1.getD 0 ao) (t.parts.drop k)=cn (aa n) e ((ae e.types t.pos t.shapes).1.getD 0 ao) t.parts,fun k=>[(77,.int .i64 k)],fun _=>[],fun k=>t.parts.length - k⟩),(37,fun S0=>⟨Nat × Flt,fun x=>x.1+1<=t.parts.length/\x.2.err=0/\x.2.pos=0/\ez (aa n) e ((ae e.types t.pos t.shapes).1.getD ((ae e.types t.pos t.shapes).1.length - 1) ao) (t.parts.drop (x.1+1)) (t.vars.drop x.1) ((ae e.types t.pos t.shapes).1.drop x.1)=ez (aa n) e ((ae e.types t.pos t.shapes).1.getD ((ae e.types t.pos t.shapes).1.length - 1) ao) (t.parts.drop 1) t.vars (ae e.types t.pos t.shapes).1,fun x=>[(180,.int .i64 x.1)],fun x=>[(7,.box (.agg [.int .i64 x.2.err,.int .i64 x.2.pos]))],fun x=>t.parts.length - x.1⟩)],[],[]⟩ func81 (yV n t e ht he hk hz hf hv)
theorem wc (n:Nat) (hA:ai prog 30 (p2 (.st .term) (.st .env) fun t e=>⟨some (szT t<=n/\allT aj t=true/\e.values.length+4096 *szT t<=100000000),none,.tup [.st .shape (aa n t e).1,.agg [.int .i64 (aa n t e).2.err,.int .i64 (aa n t e).2.pos]],[]⟩)) (hF:ai prog 144 (p3 (.st .term) (.st .shape) (.st .env) fun t w e=>⟨some (szT t<=n/\allT aj t=true/\e.values.length+4096 *szT t<=100000000),none,.agg [.int .i64 (ay (aa n) t w e).err,.int .i64 (ay (aa n) t w e).pos],[]⟩)):ai prog 81 (p2 (.st .term) (.st .env) fun t e=>⟨some ((t.kind=6∨t.kind=11∨t.kind=12∨t.kind=13∨t.kind=15)/\szT t<=n+1/\allT aj t=true/\e.values.length+4096 *szT t<=100000000),none,.tup [.st .shape (aC (aa n) t e).1,.agg [.int .i64 (aC (aa n) t e).2.err,.int .i64 (aC (aa n) t e).2.pos]],[]⟩):=
 cr zl fun t e ht he ho=>rJ n t e ht he (ho _ rfl).1 (ho _ rfl).2.1 (ho _ rfl).2.2.1 (ho _ rfl).2.2.2 hA hF
theorem zm:aB prog 49:=ee func49
theorem rK (n:Nat) (t:Trm) (e:Envt) (ht:Wf (.st .term) t) (he:Wf (.st .env) e) (hz:szT t<=n+1) (hf:allT aj t=true) (hv:e.values.length+4096 *szT t<=100000000) (hA:ai prog 30 (p2 (.st .term) (.st .env) fun t e=>⟨some (szT t<=n/\allT aj t=true/\e.values.length+4096 *szT t<=100000000),none,.tup [.st .shape (aa n t e).1,.agg [.int .i64 (aa n t e).2.err,.int .i64 (aa n t e).2.pos]],[]⟩)) (hF:ai prog 144 (p3 (.st .term) (.st .shape) (.st .env) fun t w e=>⟨some (szT t<=n/\allT aj t=true/\e.values.length+4096 *szT t<=100000000),none,.agg [.int .i64 (ay (aa n) t w e).err,.int .i64 (ay (aa n) t w e).pos],[]⟩)):ax prog 49 [.st .term t,.st .env e] [] (⟨some (szT t<=n+1/\allT aj t=true/\e.values.length+4096 *szT t<=100000000),none,.tup [.st .shape (an (aa n) t e).1,.agg [.int .i64 (an (aa n) t e).2.err,.int .i64 (an (aa n) t e).2.pos]],[]⟩):=
 g0 (sc (hA) (sc rG (sc dx (sc zh (sc oF (sc ((zk n hA hF)) (sc ((w9 n hA)) (sc ((Ba n hF)) (sc ((wc n hA hF)) sn))))))))) ⟨[(19,fun S0=>⟨Nat × List AL.Shape,fun x=>x.1<=t.parts.length/\x.2.length=x.1/\bZ (aa n) e t.parts=(x.2++(bZ (aa n) e (t.parts.drop x.1)).1,(bZ (aa n) e (t.parts.drop x.1)).2),fun x=>[(67,.int .i64 x.1)],fun x=>[(8,.box (.agg [.int .i64 6,.str [],.str [],.lst .str t.names none,.lst (.st .shape) x.2 (some 701)])),(701,.tail (.st .shape) x.2.length)],fun x=>t.parts.length - x.1⟩)],[],[(7,fun S0=>⟨[(27,.bool (decide (t.kind=3) || decide (t.kind=4)))],[]⟩)]⟩ func49 (yW n t e ht he hz hf hv)
theorem q8:∀n:Nat,ai prog 30 (p2 (.st .term) (.st .env) fun t e=>⟨some (szT t<=n/\allT aj t=true/\e.values.length+4096 *szT t<=100000000),none,.tup [.st .shape (aa n t e).1,.agg [.int .i64 (aa n t e).2.err,.int .i64 (aa n t e).2.pos]],[]⟩)
 | 0=>cr pZ fun t e ht he ho=>absurd (szT_pos t) (by have:=(ho _ rfl).1;omega)
 | n+1=>
  have hA:=q8 n
  have hF:=zi n hA
  cr pZ fun t e ht he ho=>rH n t e ht he (ho _ rfl).1 (ho _ rfl).2.1 (ho _ rfl).2.2 (cr zm fun t e ht he ho=>rK n t e ht he (ho _ rfl).1 (ho _ rfl).2.1 (ho _ rfl).2.2 hA hF)
theorem zn:ai prog 12 (p2 (.st .term) (.st .env) fun t e=>⟨some (fewT t=true/\e.values.length<=1000000),none,.tup [.st .shape (ck t e).1,.agg [.int .i64 (ck t e).2.err,.int .i64 (ck t e).2.pos]],[]⟩):=
 cr (ee func12) fun t e ht he ho=>g0 (sc vW (sc dx (sc ((q8 (szT t))) sn))) a0 func12 (B0 t e ht he (ho _ rfl))
theorem tZ:ai prog 10 (p1 (.st .term) fun t=>.ret (.bool (decide (dm t 300<=300)))):=
 bT (ee func10) fun t ht _=>g0 (sc (ze (szT t)) sn) a0 func10 (vJ t ht)
theorem ml:aB prog 20:=ee func20
theorem oN (n:Nat) (t:Trm) (b:Bndg) (ht:Wf (.st .term) t) (hz:szT t<=n+1) (hA:ai prog 20 (p2 (.st .term) (.st .bind) fun t b=>⟨some (szT t<=n),none,.bool (standsT b t),[]⟩)):ax prog 20 [.st .term t,.st .bind b] [] (⟨some (szT t<=n+1),none,.bool (standsT b t),[]⟩):=
 g0 (sc (hA) sn) ⟨[(2,fun S0=>⟨Nat,fun k=>k<=t.parts.length/\standsTL b t.parts=standsTL b (t.parts.drop k),fun k=>[(5,.int .i64 k)],fun _=>[],fun k=>t.parts.length - k⟩)],[],[]⟩ func20 (tx n t b ht hz)
theorem kL:∀n:Nat,ai prog 20 (p2 (.st .term) (.st .bind) fun t b=>⟨some (szT t<=n),none,.bool (standsT b t),[]⟩)
 | 0=>cr ml fun t b ht _ ho=>absurd (szT_pos t) (by have:=ho _ rfl;omega)
 | n+1=>cr ml fun t b ht _ ho=>oN n t b ht (ho _ rfl) (kL n)
theorem kM (G:Trm→Envt→Shape × Flt) (N:Nat) (t:Trm) (e:Envt) (b:Bndg) (ht:Wf (.st .term) t) (he:Wf (.st .env) e) (hf:fewT t=true) (hb:Wf (.st .bind) b) (hN:sz (G t e).1<=N) (hm:standsT b t=false→G t (bq e [b])=G t e/\G t ⟨e.self,e.types,b ::e.values,e.own⟩=G t e) (hG:ai prog 12 (p2 (.st .term) (.st .env) fun t e=>⟨some (fewT t=true/\e.values.length<=1000000),none,.tup [.st .shape (G t e).1,.agg [.int .i64 (G t e).2.err,.int .i64 (G t e).2.pos]],[]⟩)) (hW:ai prog 11 (p0 (.ret (.bool true)))):ax prog 5 [.st .term t,.st .env e,.st .bind b] [] (.ret (.bool true)):=
 g0 (sc tB (sc tZ (sc oE (sc ((kL (szT t))) (sc (hW) (sc (hG) (sc oF (sc (vO N) sn)))))))) a0 func5 (oA G N t e b ht he hf hb hN hm)
end Go.AL.Seat
end
noncomputable section
namespace Go.AL
def evN {α:Type} (n:Nat) (k:Nat→α):α:=match n with | 0=>k 0 | m+1=>k (m+1)
def evI {α:Type} (n:Int) (k:Int→α):α:=match n with | .ofNat m=>evN m fun m=>k (.ofNat m) | .negSucc m=>evN m fun m=>k (.negSucc m)
def evL {α β:Type}:List β→(List β→α)→α
 | [],k=>k []
 | a ::r,k=>evL r fun r=>k (a ::r)
theorem gr {α:Type} (n:Nat) (k:Nat→α):evN n k=k n:=by cases n <;> rfl
theorem Bb {α:Type} (n:Int) (k:Int→α):evI n k=k n:=by
 cases n <;> (unfold evI;exact gr _ _)
theorem eK {α β:Type}:∀(l:List β) (k:List β→α),evL l k=k l
 | [],_=>rfl
 | a ::r,k=>by rw [evL,eK r]
mutual
def evV {α:Type}:AV→(AV→α)→α
 | .int κ n,k=>evI n fun n=>k (.int κ n)
 | .bool true,k=>k (.bool true)
 | .bool false,k=>k (.bool false)
 | .str s,k=>evL s fun s=>k (.str s)
 | .lst τ xs none,k=>evL xs fun xs=>k (.lst τ xs none)
 | .lst τ xs (some i),k=>evL xs fun xs=>k (.lst τ xs (some i))
 | .row τ xs,k=>evL xs fun xs=>k (.row τ xs)
 | .arr i n w,k=>evN n fun n=>k (.arr i n w)
 | .aptr i n w o,k=>evN n fun n=>evN o fun o=>k (.aptr i n w o)
 | .cptr c,k=>evV c fun c=>k (.cptr c)
 | .agg cs,k=>evVs cs fun cs=>k (.agg cs)
 | .tup cs,k=>evVs cs fun cs=>k (.tup cs)
 | .fn f cs,k=>evVs cs fun cs=>k (.fn f cs)
 | .iface t a,k=>evV a fun a=>k (.iface t a)
 | .lstp τ xs i,k=>evL xs fun xs=>k (.lstp τ xs i)
 | .undef,k=>k .undef
 | .nils,k=>k .nils
 | .ptr i o,k=>k (.ptr i o)
 | .nilp,k=>k .nilp
 | .st n x,k=>k (.st n x)
 | .map i,k=>k (.map i)
 | .bptr i,k=>k (.bptr i)
 | .nilif,k=>k .nilif
 | .nilm,k=>k .nilm
 | .pt n x,k=>k (.pt n x)
 | .tptr τ n i,k=>k (.tptr τ n i)
def evVs {α:Type}:List AV→(List AV→α)→α
 | [],k=>k []
 | a ::r,k=>evV a fun a=>evVs r fun r=>k (a ::r)
end
mutual
theorem evV_eq {α:Type}:∀(a:AV) (k:AV→α),evV a k=k a
 | .int κ n,k=>by rw [evV,Bb]
 | .bool true,k=>rfl
 | .bool false,k=>rfl
 | .str s,k=>by rw [evV,eK]
 | .lst τ xs none,k=>by rw [evV,eK]
 | .lst τ xs (some i),k=>by rw [evV,eK]
 | .row τ xs,k=>by rw [evV,eK]
 | .arr i n w,k=>by rw [evV,gr]
 | .aptr i n w o,k=>by rw [evV,gr,gr]
 | .cptr c,k=>by rw [evV,evV_eq c]
 | .agg cs,k=>by rw [evV,evVs_eq cs]
 | .tup cs,k=>by rw [evV,evVs_eq cs]
 | .fn f cs,k=>by rw [evV,evVs_eq cs]
 | .iface t a,k=>by rw [evV,evV_eq a]
 | .lstp τ xs i,k=>by rw [evV,eK]
 | .undef,k=>rfl
 | .nils,k=>rfl
 | .ptr _ _,k=>rfl
 | .nilp,k=>rfl
 | .st _ _,k=>rfl
 | .map _,k=>rfl
 | .bptr _,k=>rfl
 | .nilif,k=>rfl
 | .nilm,k=>rfl
 | .pt _ _,k=>rfl
 | .tptr _ _ _,k=>rfl
theorem evVs_eq {α:Type}:∀(l:List AV) (k:List AV→α),evVs l k=k l
 | [],k=>rfl
 | a ::r,k=>by rw [evVs,evV_eq a,evVs_eq r]
end
def evA {α:Type} (a:AV) (k:AV→α):α:=
 match a with
 | .int κ n=>evI n fun n=>k (.int κ n)
 | .bool b=>(match b with | true=>k (.bool true) | false=>k (.bool false))
 | .str s=>evL s fun s=>k (.str s)
 | .lst τ xs o=>evL xs fun xs=>(match o with | none=>k (.lst τ xs none) | some i=>k (.lst τ xs (some i)))
 | .row τ xs=>evL xs fun xs=>k (.row τ xs)
 | .arr i n w=>evN n fun n=>k (.arr i n w)
 | .aptr i n w o=>evN n fun n=>evN o fun o=>k (.aptr i n w o)
 | .ptr i o=>evN o fun o=>k (.ptr i o)
 | .cptr c=>evV c fun c=>k (.cptr c)
 | .agg cs=>evVs cs fun cs=>k (.agg cs)
 | .tup cs=>evVs cs fun cs=>k (.tup cs)
 | .fn f cs=>evVs cs fun cs=>k (.fn f cs)
 | .iface t a=>evV a fun a=>k (.iface t a)
 | .lstp τ xs i=>evL xs fun xs=>k (.lstp τ xs i)
 | a=>k a
theorem D2 {α:Type} (a:AV) (k:AV→α):evA a k=k a:=by
 unfold evA
 split
 ·exact Bb _ _
 ·split <;> rfl
 ·exact eK _ _
 ·rw [eK];split <;> rfl
 ·exact eK _ _
 ·exact gr _ _
 ·rw [gr,gr]
 ·exact gr _ _
 ·exact evV_eq _ _
 ·exact evVs_eq _ _
 ·exact evVs_eq _ _
 ·exact evVs_eq _ _
 ·exact evV_eq _ _
 ·exact eK _ _
 ·rfl
def evO {α:Type}:SObj→(SObj→α)→α
 | .box c,k=>evV c fun c=>k (.box c)
 | .tail τ n,k=>evN n fun n=>k (.tail τ n)
 | .map κ τ m,k=>evL m fun m=>k (.map κ τ m)
 | .bld t u l,k=>evL l fun l=>k (.bld t u l)
 | .tailp τ n x,k=>evN n fun n=>k (.tailp τ n x)
theorem D3 {α:Type} (o:SObj) (k:SObj→α):evO o k=k o:=by
 cases o with
 | box c=>exact evV_eq _ _
 | tail τ n=>unfold evO;exact gr _ _
 | map κ τ m=>exact eK _ _
 | bld t u l=>exact eK _ _
 | tailp τ n x=>unfold evO;exact gr _ _
def evB {α:Type}:List (Nat × SObj)→(List (Nat × SObj)→α)→α
 | [],k=>k []
 | (i,o) ::r,k=>evO o fun o=>evB r fun r=>k ((i,o) ::r)
theorem rL {α:Type}:∀(l:List (Nat × SObj)) (k:List (Nat × SObj)→α),evB l k=k l
 | [],k=>rfl
 | (i,o) ::r,k=>by rw [evB,D3,rL r]
def evS {α:Type} (s:St) (k:St→α):α:=evL s.t fun t=>evB s.b fun b=>k ⟨t,b⟩
theorem Bc {α:Type} (s:St) (k:St→α):evS s k=k s:=by rw [evS,eK,rL]
theorem zo {ob:Option DP} {q:Prop} (h:okO ob=true) (hq:q):pw ob q:=by
 cases ob with
 | none=>exact hq
 | some d=>exact ⟨d.h h,hq⟩
def xc {α:Sort _} (ops:List Oper) (o:Oper) (T:Nat→AV) (bad:α) (on off:Unit→α):α:=
 match o.guard with
 | none=>on ()
 | some (j,want)=>
  match (nth ops j).bind (·.dst) with
  | none=>bad
  | some d=>
   match T d with
   | .bool true=>if want then on () else off ()
   | .bool false=>if want then off () else on ()
   | .tup []=>off ()
   | _=>bad
theorem we {α:Type} {ops:List Oper} {o:Oper} {T:Nat→AV} {y:α} {on off:Unit→Option α} {on' off':Unit→Prop} (hon:on ()=some y→on' ()) (hoff:off ()=some y→off' ())
  (h:xc ops o T none on off=some y):xc ops o T False on' off':=by
 unfold xc at h ⊢
 cases hg:o.guard with
 | none=>simp only [hg] at h ⊢;exact hon h
 | some p=>
  obtain ⟨j,want⟩:=p
  simp only [hg] at h ⊢
  cases hd:(nth ops j).bind (·.dst) with
  | none=>simp only [hd] at h;cases h
  | some d=>
   simp only [hd] at h ⊢
   generalize T d=v at h ⊢
   split at h
   ·split at h
    ·rename_i hw;exact (if_pos hw).symm ▸ hon h
    ·rename_i hw;exact (if_neg hw).symm ▸ hoff h
   ·split at h
    ·rename_i hw;exact (if_pos hw).symm ▸ hoff h
    ·rename_i hw;exact (if_neg hw).symm ▸ hon h
   ·exact hoff h
   ·cases h
def gdB (ops:List Oper) (g:Bool) (i:Nat):Bool:=match g with | true=>eM ops i | false=>false
def Bd (ops:List Oper):Bool:=ops.any fun o=>o.guard.isSome
theorem D4 (ops:List Oper) (i:Nat):gdB ops (Bd ops) i=eM ops i:=by
 unfold gdB
 cases h:Bd ops with
 | true=>rfl
 | false=>
  show false=eM ops i
  symm
  unfold Bd at h
  rw [List.any_eq_false] at h
  unfold eM
  rw [List.any_eq_false]
  intro o ho
  have:=h o ho
  cases hg:o.guard with
  | none=>simp
  | some x=>rw [hg] at this;exact absurd rfl this
def u9 (C:Cfg) (ops:List Oper) (g:Bool):List Oper→Nat→St→List cM→Option (St × List cM)
 | [],_,s,fs=>some (s,fs.reverse)
 | o ::r,i,s,fs=>
  xc ops o (b8 s.t) none
   (fun _=>
    match aE C o (b8 s.t) (aw s.b) with
    | none=>none
    | some e=>
     match okO e.ob,cP C o (b8 s.t) (aw s.b) with
     | true,none=>
      (match gdB ops g i,e.val with
      | true,.bool b=>(match b with
       | true=>u9 C ops g r (i+1) ⟨mq s.t o.dst (.bool true),bR s.b e.upd⟩ ((aQ C o (b8 s.t) (aw s.b),e.upd.map (·.1)) ::fs)
       | false=>u9 C ops g r (i+1) ⟨mq s.t o.dst (.bool false),bR s.b e.upd⟩ ((aQ C o (b8 s.t) (aw s.b),e.upd.map (·.1)) ::fs))
      | true,_=>none
      | false,v=>evA v fun v=>u9 C ops g r (i+1) ⟨mq s.t o.dst v,bR s.b e.upd⟩ ((aQ C o (b8 s.t) (aw s.b),e.upd.map (·.1)) ::fs))
     | _,_=>none)
   (fun _=>u9 C ops g r (i+1) ⟨mq s.t o.dst (.tup []),s.b⟩ (([],[]) ::fs))
theorem xe {C:Cfg} {ops:List Oper} {draw:Bool} {kp:AV→St→Prop} {k:St→List cM→Prop} {s':St} {fs':List cM} (hk:k s' fs') :
  ∀(l:List Oper) (i:Nat) (s:St) (fs:List cM),u9 C ops (Bd ops) l i s fs=some (s',fs')→bD C ops draw kp l i s fs k
 | [],_,s,fs,h=>by
  simp only [u9,Xs,Prod.mk.injEq] at h
  obtain ⟨rfl,rfl⟩:=h
  exact hk
 | o ::r,i,s,fs,h=>by
  have ih:=xe (C:=C) (ops:=ops) (draw:=draw) (kp:=kp) hk r
  rw [u9,D4] at h
  refine we (on':=fun _=>
   match aE C o (b8 s.t) (aw s.b) with
   | none=>False
   | some e=>
    pw e.ob
    (match cP C o (b8 s.t) (aw s.b) with
    | none=>
     (match eM ops i,e.val with
     | true,.bool b=>
      sp b (bD C ops draw kp r (i+1) (s.put o.dst {e with val:=.bool true}) ((aQ C o (b8 s.t) (aw s.b),e.upd.map (·.1)) ::fs) k)
       (bD C ops draw kp r (i+1) (s.put o.dst {e with val:=.bool false}) ((aQ C o (b8 s.t) (aw s.b),e.upd.map (·.1)) ::fs) k)
     | true,_=>False
     | false,_=>bD C ops draw kp r (i+1) (s.put o.dst e) ((aQ C o (b8 s.t) (aw s.b),e.upd.map (·.1)) ::fs) k)
    | some (b,pv,u)=>
     (match draw || eM ops i with
     | true=>False
     | false=>sp b (kp pv ⟨s.t,bR s.b u⟩) (bD C ops draw kp r (i+1) (s.put o.dst e) ((aQ C o (b8 s.t) (aw s.b),e.upd.map (·.1)) ::fs) k))))
   (off':=fun _=>bD C ops draw kp r (i+1) ⟨mq s.t o.dst (.tup []),s.b⟩ (([],[]) ::fs) k) ?_ (fun h=>ih _ _ _ h) h
  intro h
  split at h
  ·cases h
  ·rename_i e he
   split at h
   ·rename_i ho hp
    refine zo ho ?_
    try simp only [hp]
    split at h
    ·rename_i b hg hv
     try simp only [hg,hv]
     split at h
     ·exact ih _ _ _ h
     ·exact ih _ _ _ h
    ·cases h
    ·rename_i v hg
     simp only [D2] at h
     try simp only [hg]
     exact ih _ _ _ h
   ·cases h
def Ci (ops:List Oper) (i j:Nat):Bool:=((qn ops).getD j 0).testBit i
def jK:Nat→List cM→List (Nat × cM)
 | _,[]=>[]
 | i,f ::r=>match f with | ([],[])=>jK (i+1) r | f=>(i,f) ::jK (i+1) r
def ly (ops:List Oper):List (Nat × cM)→Bool
 | []=>true
 | x ::r=>r.all (fun p=>Ci ops x.1 p.1 || fM x.2 p.2) && ly ops r
def xf (ops:List Oper):Bool:=
 ((List.range ops.length).all fun j=>(List.range j).all fun i=>Ci ops i j || (match nth ops i,nth ops j with | some x,some y=>mV ops x y | _,_=>false)) &&
 (ops.zipIdx.all fun (o,j)=>o.after.all fun e=>!Region.binds .any e || Nat.blt e.on j)
def wg (ops:List Oper) (fs:List cM):Bool:=xf ops && dV fs ops.length && ly ops (jK 0 fs)
theorem oO {α:Type}:∀{l:List α} {i:Nat},i < l.length→∃x,nth l i=some x
 | a ::_,0,_=>⟨a,rfl⟩
 | _ ::r,i+1,h=>oO (l:=r) (Nat.lt_of_succ_lt_succ h)
theorem q9:∀{fs:List cM} {i0 k:Nat} {f:cM},nth fs k=some f→f≠([],[])→(i0+k,f)∈jK i0 fs
 | g ::r,i0,0,f,h,hf=>by
  cases h
  unfold jK
  split
  ·exact absurd rfl hf
  ·exact List.mem_cons_self ..
 | g ::r,i0,k+1,f,h,hf=>by
  have ih:=q9 (fs:=r) (i0:=i0+1) (k:=k) h hf
  rw [show i0+(k+1)=i0+1+k by omega]
  unfold jK
  split
  ·exact ih
  ·exact List.mem_cons_of_mem _ ih
theorem mm {ops:List Oper}:∀{fs:List cM} {i0 a b:Nat} {f g:cM},ly ops (jK i0 fs)=true→a < b→nth fs a=some f→nth fs b=some g→f≠([],[])→g≠([],[])→(Ci ops (i0+a) (i0+b) || fM f g)=true
 | x ::r,i0,0,b+1,f,g,h,_,hf,hg,h1,h2=>by
  cases hf
  have hm:=q9 (fs:=r) (i0:=i0+1) (k:=b) hg h2
  unfold jK at h
  split at h
  ·exact absurd rfl h1
  ·unfold ly at h
   rw [Bool.and_eq_true,List.all_eq_true] at h
   have:=h.1 _ hm
   rwa [show i0+1+b=i0+(b+1) by omega] at this
 | x ::r,i0,a+1,b+1,f,g,h,hab,hf,hg,h1,h2=>by
  have hr:ly ops (jK (i0+1) r)=true:=by
   unfold jK at h
   split at h
   ·exact h
   ·unfold ly at h
    rw [Bool.and_eq_true] at h
    exact h.2
  have:=mm (fs:=r) (i0:=i0+1) (a:=a) (b:=b) hr (by omega) hf hg h1 h2
  rwa [show i0+1+a=i0+(a+1) by omega,show i0+1+b=i0+(b+1) by omega] at this
theorem wh (g:cM):fM ([],[]) g=true:=by
 unfold fM rT
 simp
theorem ua (f:cM):fM f ([],[])=true:=by
 unfold fM rT
 simp
theorem kN {α:Type}:∀{l:List α} {n:Nat},dV l n=true→l.length=n
 | [],0,_=>rfl
 | _ ::r,n+1,h=>by rw [List.length_cons,kN (l:=r) h]
theorem zp {ops:List Oper} {fs:List cM} (h:wg ops fs=true):dC ops fs=true:=by
 unfold wg xf at h
 simp only [Bool.and_eq_true,List.all_eq_true,List.mem_range] at h
 obtain ⟨⟨⟨h1,h2⟩,h3⟩,h4⟩:=h
 have hl:=kN h3
 unfold dC
 rw [Bool.and_eq_true]
 refine ⟨?_,by rw [List.all_eq_true];intro p hp;have:=h2 p hp;exact (by obtain ⟨o,j⟩:=p;simpa using this)⟩
 rw [List.all_eq_true]
 intro j hj
 rw [List.all_eq_true]
 intro i hi
 rw [List.mem_range] at hj hi
 have k:=h1 j hj i hi
 rw [Bool.or_eq_true] at k ⊢
 rcases k with k | k
 ·exact .inl k
 obtain ⟨x,hx⟩:=oO (l:=ops) (i:=i) (by omega)
 obtain ⟨y,hy⟩:=oO (l:=ops) (i:=j) hj
 obtain ⟨f,hf⟩:=oO (l:=fs) (i:=i) (by omega)
 obtain ⟨g,hg⟩:=oO (l:=fs) (i:=j) (by omega)
 rw [hx,hy] at k
 rw [hx,hy,hf,hg]
 have q:Ci ops i j=true∨fM f g=true:=by
  by_cases c1:f=([],[])
  ·rw [c1];exact .inr (wh g)
  ·by_cases c2:g=([],[])
   ·rw [c2];exact .inr (ua f)
   ·have:=mm h4 hi hf hg c1 c2
    rw [Nat.zero_add,Nat.zero_add,Bool.or_eq_true] at this
    exact this
 rcases q with q | q
 ·exact .inl q
 ·exact .inr (by rw [Bool.and_eq_true];exact ⟨k,q⟩)
end Go.AL
end
noncomputable section
namespace Go.AL
variable [Tabs]
def Be:List (Nat × SObj)→Nat→Nat
 | [],m=>m *1000+998
 | (i,_) ::r,m=>Be r (match Nat.ble m (i / 1000) with | true=>i / 1000+1 | false=>m)
def rM:List Nat→St→Option St
 | [],s=>some s
 | i ::r,s=>(match BA i (Be s.b 100) s with | some s=>rM r s | none=>none)
theorem kO {F:Fr} {a:Act}:∀(l:List Nat) {s s':St} {Ω:Om},Holds F s.abs a Ω→rM l s=some s'→∃Ω',Ω'.w=Ω.w/\Holds F s'.abs a Ω'
 | [],s,s',Ω,h,hr=>by cases hr;exact ⟨Ω,rfl,h⟩
 | i ::r,s,s',Ω,h,hr=>by
  unfold rM at hr
  split at hr
  ·rename_i s1 h1
   obtain ⟨Ω1,e1,g1⟩:=nO h h1
   obtain ⟨Ω2,e2,g2⟩:=kO r g1 hr
   exact ⟨Ω2,e2.trans e1,g2⟩
  ·cases hr
def wi (ops:List Oper) (s:St):Option St:=
 match enter ops s with
 | some s'=>some s'
 | none=>(match rM ((s.b.map (·.1)).filter fun i=>wD (mX ops) (qo ops) i && !bz i) s with | some s'=>enter ops s' | none=>none)
theorem rN {F:Fr} {ops:List Oper} {s s':St} {a:Act} {Ω:Om} (h:Holds F s.abs a Ω) (he:wi ops s=some s'):∃Ω',Ω'.w=Ω.w/\Holds F s'.abs a Ω':=by
 unfold wi at he
 split at he
 ·rename_i s1 h1;cases he;exact iT h h1
 ·split at he
  ·rename_i s1 h1
   obtain ⟨Ω1,e1,g1⟩:=kO _ h h1
   obtain ⟨Ω2,e2,g2⟩:=iT g1 he
   exact ⟨Ω2,e2.trans e1,g2⟩
  ·cases he
end Go.AL
end
noncomputable section
namespace Go.AL
def Bf (k:Nat) (s:St):Option St:=
 match aw s.b k with
 | some (.tailp τ n x)=>
  if ((s.t.flatMap (fun y=>lensV k y.2)++s.b.flatMap (fun y=>Cn k y.2)).all fun m=>Nat.beq m n)=true then
   some ⟨s.t.map fun y=>(y.1,finV k τ x y.2),(mo s.b k (.tail τ (n+1))).map fun y=>(y.1,xp k τ x y.2)⟩ else none
 | _=>some s
def xg:List Nat→St→Option St
 | [],s=>some s
 | k ::r,s=>(match Bf k s with | some s=>xg r s | none=>none)
theorem qa {n:Nat} {q:Prop} (hq:q):∀l:List Nat,(l.all fun m=>Nat.beq m n)=true→qp n l q
 | [],_=>hq
 | m ::r,h=>by
  rw [List.all_cons,Bool.and_eq_true] at h
  exact ⟨Nat.eq_of_beq_eq_true h.1,qa hq r h.2⟩
theorem Bg {k:Nat} {s s':St} {Q:St→Prop} (h:Bf k s=some s') (hq:Q s'):uv k s Q:=by
 unfold Bf at h
 unfold uv
 generalize hb:aw s.b k=b at h ⊢
 cases b with
 | none=>cases h;exact hq
 | some o=>
  cases o with
  | tailp τ n x=>
   dsimp only at h ⊢
   split at h
   ·rename_i ha
    cases h
    exact qa hq _ ha
   ·cases h
  | _=>cases h;exact hq
theorem ub {Q:St→Prop} {s':St} (hq:Q s'):∀(l:List Nat) (s:St),xg l s=some s'→uw l s Q
 | [],s,h=>by cases h;exact hq
 | k ::r,s,h=>by
  unfold xg at h
  split at h
  ·rename_i s1 h1
   exact Bg h1 (ub hq r s1 h)
  ·cases h
def trimM (keep:Nat) (s:St):St:=⟨s.t.filter fun x=>Nat.beq (Nat.land (Nat.shiftRight keep x.1) 1) 1,s.b⟩
def D5 (C:Cfg) (keep:Nat) (ops:Array Oper) (draw:Bool) (s:St):Option St:=
 match u9 C ops.toList (Bd ops.toList) ops.toList 0 s [] with
 | none=>none
 | some (s,fs)=>
  match xg (mB s.b) s with
  | none=>none
  | some s=>
   match draw with
   | false=>evS (trimM keep s) some
   | true=>(match wg ops.toList fs with | true=>evS (trimM keep s) some | false=>none)
theorem Holds.trimM [Tabs] {F:Fr} {s:St} {a:Act} {Ω:Om} (h:Holds F s.abs a Ω) (keep:Nat):Holds F (trimM keep s).abs a Ω:=by
 refine ⟨fun i=>?_,h.size,h.defers,h.slots,h.dom,h.inj,h.pubok,h.keep,h.frame⟩
 have e:(AL.trimM keep s).abs.T i=if Nat.beq (Nat.land (Nat.shiftRight keep i) 1) 1=true then b8 s.t i else .undef:=gg s.t (fun i=>Nat.beq (Nat.land (Nat.shiftRight keep i) 1) 1) i
 rw [e]
 split
 ·exact h.tmps i
 ·exact .undef _
theorem wj [Tabs] {P:Program} {C:Cfg} {F:Fr} (hm:P.follows .mixedOrders=true) (hT:ba P C.tbl) (hS:bH P C.spec) {keep:Nat} {id:Nat} {ops:Array Oper} {draw:Bool} {s s':St} {a:Act} {Ω:Om}
  (hdst:∀(o:Oper),o∈ops.toList→∀d,o.dst=some d→d < F.n) (h:D5 C keep ops draw s=some s') (hh:Holds F s.abs a Ω):(Code.region id ops draw).wp P (QL F fun y t=>y=.normal/\t=s') a Ω.w:=by
 have key:bD C ops.toList draw (fun _ _=>False) ops.toList 0 s [] fun s2 fs=>CF s2 fun s3=>s'=trimM keep s3/\(draw=true→dC ops.toList fs=true):=by
  unfold D5 at h
  split at h
  ·cases h
  ·rename_i s1 fs h1
   refine xe ?_ _ _ _ _ h1
   split at h
   ·cases h
   ·rename_i s2 h2
    refine ub ?_ _ _ h2
    split at h
    ·rw [Bc] at h
     cases h
     exact ⟨rfl,fun q=>by cases q⟩
    ·split at h
     ·rename_i hi
      rw [Bc] at h
      cases h
      exact ⟨rfl,fun _=>zp hi⟩
     ·cases h
 refine kn hm hT hS hdst key (fun hdr s2 fs hk=>let ⟨s3,h3⟩:=lh _ hk;h3.2 hdr) hh (fun s2 fs a' Ω' hk h'=>
   let ⟨s3,Ω3,g1,g2,g3⟩:=nM h' hk
   ⟨.normal,trimM keep s3,Ω3,rfl,g1,g2.trimM keep,rfl,g3.1.symm⟩)
  (fun pv s2 a' Ω' v hk _ _=>hk.elim)
def xh (f:St→Option (SX × St)):Nat→St→Option (SX × St)
 | 0,_=>none
 | n+1,s=>
  match f s with
  | some (.normal,s')=>xh f n s'
  | r=>r
def gN (C:Cfg) (keep:Nat) (pubs:List (Nat × List Nat)) (N:Nat):Code→St→Option (SX × St)
 | .skip,s=>some (.normal,s)
 | .seq a b,s=>
  (match gN C keep pubs N a s with
  | some (.normal,s')=>gN C keep pubs N b s'
  | r=>r)
 | .cond c a b,s=>
  (match opd (b8 s.t) c with
  | .bool true=>gN C keep pubs N a s
  | .bool false=>gN C keep pubs N b s
  | _=>none)
 | .block id c,s=>
  (match gN C keep pubs N c s with
  | some (.exit j,s')=>if j ==id then some (.normal,s') else some (.exit j,s')
  | r=>r)
 | .exit id,s=>some (.exit id,s)
 | .scope c,s=>gN C keep pubs N c s
 | .label _,s=>some (.normal,s)
 | .ret,s=>some (.ret,s)
 | .region id ops draw,s=>
  (match kV (rV pubs id) s with
  | none=>none
  | some s=>
   match wi ops.toList s with
   | none=>none
   | some s=>
    match D5 C keep ops draw s with
    | some s=>some (.normal,s)
    | none=>none)
 | .loop c,s=>xh (gN C keep pubs N c) N s
 | _,_=>none
variable [Tabs]
variable {P:Program} {C:Cfg} {F:Fr}
theorem wk (hm:P.follows .mixedOrders=true) (hT:ba P C.tbl) (hS:bH P C.spec) (keep:Nat) (pubs:List (Nat × List Nat)) (N:Nat) :
  ∀(c:Code) (s:St) (x:SX) (s':St) (a:Act) (Ω:Om),gN C keep pubs N c s=some (x,s')→bB F.n c=true→Holds F s.abs a Ω→c.wp P (QL F fun y t=>y=x/\t=s') a Ω.w:=by
 intro c
 induction c with
 | skip=>intro s x s' a Ω h _ hh;cases h;exact wp_skip ⟨.normal,s,Ω,rfl,rfl,hh,rfl,rfl⟩
 | region id ops draw=>
  intro s x s' a Ω h hd hh
  unfold gN at h
  split at h
  ·cases h
  ·rename_i s0 h0
   obtain ⟨Ω0,e0,g0⟩:=ie _ hh h0
   split at h
   ·cases h
   ·rename_i s1 h1
    obtain ⟨Ω1,e1,g1⟩:=rN g0 h1
    have hdst:∀(o:Oper),o∈ops.toList→∀d,o.dst=some d→d < F.n:=by
     intro o ho d hod
     simp only [bB,List.all_eq_true] at hd
     have:=hd o ho
     rw [hod] at this
     simpa using this
    split at h
    ·rename_i s2 h2
     cases h
     rw [←e0,←e1]
     exact wj hm hT hS hdst h2 g1
    ·cases h
 | seq x y ihx ihy=>
  intro s z s' a Ω h hd hh
  simp only [bB,Bool.and_eq_true] at hd
  unfold gN at h
  cases h1:gN C keep pubs N x s with
  | none=>rw [h1] at h;cases h
  | some r=>
   obtain ⟨e1,s1⟩:=r
   rw [h1] at h
   refine wp_seq (wp_mono (ihx s e1 s1 a Ω h1 hd.1 hh) ?_)
   intro e a' w' hq
   obtain ⟨e2,s2,Ω',g1,g2,g3,g4,g5⟩:=hq
   subst g2 g4 g5
   cases e2 with
   | normal=>cases g1;exact ihy _ z s' a' Ω' h hd.2 g3
   | exit id=>cases g1;cases h;exact ⟨.exit id,_,Ω',rfl,rfl,g3,rfl,rfl⟩
   | ret=>cases g1;cases h;exact ⟨.ret,_,Ω',rfl,rfl,g3,rfl,rfl⟩
   | pan pv=>obtain ⟨v,rfl,hv⟩:=g1;cases h;exact ⟨.pan pv,_,Ω',⟨v,rfl,hv⟩,rfl,g3,rfl,rfl⟩
 | cond c x y ihx ihy=>
  intro s z s' a Ω h hd hh
  simp only [bB,Bool.and_eq_true] at hd
  unfold gN at h
  have hv:=bj hh c
  split at h
  ·rename_i hb
   have hb':opd s.abs.T c=.bool true:=hb
   rw [hb'] at hv
   exact wp_cond hv.bool_inv (ihx _ z s' a Ω h hd.1 hh)
  ·rename_i hb
   have hb':opd s.abs.T c=.bool false:=hb
   rw [hb'] at hv
   exact wp_cond hv.bool_inv (ihy _ z s' a Ω h hd.2 hh)
  ·cases h
 | block id c ih=>
  intro s z s' a Ω h hd hh
  simp only [bB] at hd
  unfold gN at h
  cases h1:gN C keep pubs N c s with
  | none=>rw [h1] at h;cases h
  | some r=>
   obtain ⟨e1,s1⟩:=r
   rw [h1] at h
   refine wp_block (wp_mono (ih s e1 s1 a Ω h1 hd hh) ?_)
   intro e a' w' hq
   obtain ⟨e2,s2,Ω',g1,g2,g3,g4,g5⟩:=hq
   subst g2 g4 g5
   cases e2 with
   | normal=>cases g1;cases h;exact ⟨.normal,_,Ω',rfl,rfl,g3,rfl,rfl⟩
   | ret=>cases g1;cases h;exact ⟨.ret,_,Ω',rfl,rfl,g3,rfl,rfl⟩
   | pan pv=>obtain ⟨v,rfl,hv⟩:=g1;cases h;exact ⟨.pan pv,_,Ω',⟨v,rfl,hv⟩,rfl,g3,rfl,rfl⟩
   | exit j=>
    cases g1
    simp only [uZ,Exit.inBlock]
    by_cases hj:j=id
    ·subst hj
     simp only [beq_self_eq_true,if_true] at h
     cases h
     simp only [if_true]
     exact ⟨.normal,_,Ω',rfl,rfl,g3,rfl,rfl⟩
    ·simp only [beq_iff_eq,hj,if_false] at h
     cases h
     rw [if_neg hj]
     exact ⟨.exit j,_,Ω',rfl,rfl,g3,rfl,rfl⟩
 | loop c ih=>
  intro s z s' a Ω h hd hh
  simp only [bB] at hd
  unfold gN at h
  refine wp_loop_rounds N ?_
  have key:∀(n:Nat) (s:St) (a:Act) (Ω:Om),xh (gN C keep pubs N c) n s=some (z,s')→Holds F s.abs a Ω→Code.rounds P c (QL F fun y t=>y=z/\t=s') n a Ω.w:=by
   intro n
   induction n with
   | zero=>intro s a Ω h _;cases h
   | succ n ihn=>
    intro s a Ω h hh
    rw [rounds_succ]
    unfold xh at h
    cases h1:gN C keep pubs N c s with
    | none=>rw [h1] at h;cases h
    | some r=>
     obtain ⟨e1,s1⟩:=r
     rw [h1] at h
     refine wp_mono (ih s e1 s1 a Ω h1 hd hh) ?_
     intro e a' w' hq
     obtain ⟨e2,s2,Ω',g1,g2,g3,g4,g5⟩:=hq
     subst g2 g4 g5
     cases e2 with
     | normal=>cases g1;exact ihn _ a' Ω' h g3
     | exit id=>cases g1;cases h;exact ⟨.exit id,_,Ω',rfl,rfl,g3,rfl,rfl⟩
     | ret=>cases g1;cases h;exact ⟨.ret,_,Ω',rfl,rfl,g3,rfl,rfl⟩
     | pan pv=>obtain ⟨v,rfl,hv⟩:=g1;cases h;exact ⟨.pan pv,_,Ω',⟨v,rfl,hv⟩,rfl,g3,rfl,rfl⟩
  exact key N s a Ω h hh
 | exit id=>intro s x s' a Ω h _ hh;cases h;exact wp_exit ⟨.exit id,s,Ω,rfl,rfl,hh,rfl,rfl⟩
 | ret=>intro s x s' a Ω h _ hh;cases h;exact wp_ret ⟨.ret,s,Ω,rfl,rfl,hh,rfl,rfl⟩
 | rangeFunc g ps x y _ _=>intro s z s' a Ω h;cases h
 | scope c ih=>
  intro s z s' a Ω h hd hh
  simp only [bB] at hd
  unfold gN at h
  refine wp_scope_straight (wp_mono (ih s z s' a Ω h hd hh) ?_)
  intro e a' w' hq
  obtain ⟨e2,s2,Ω',h1,h2,h3,h4⟩:=hq
  cases e2 with
  | normal=>cases h1;exact ⟨.normal,_,Ω',rfl,h2,h3,h4⟩
  | exit id=>cases h1;exact ⟨.exit id,_,Ω',rfl,h2,h3,h4⟩
  | ret=>cases h1;exact ⟨.ret,_,Ω',rfl,h2,h3,h4⟩
  | pan pv=>obtain ⟨v,rfl,hv⟩:=h1;exact ⟨.pan pv,_,Ω',⟨v,rfl,hv⟩,h2,h3,h4⟩
 | label l=>intro s x s' a Ω h _ hh;cases h;exact wp_label ⟨.normal,s,Ω,rfl,rfl,hh,rfl,rfl⟩
 | goto l=>intro s z s' a Ω h;cases h
 | refuse why=>intro s z s' a Ω h;cases h
end Go.AL
end
noncomputable section
namespace Go.AL
variable [Tabs]
mutual
def fineV:AV→Bool
 | .lstp _ _ _=>false
 | .tptr _ _ _=>false
 | .cptr c=>fineV c
 | .agg cs=>fineVs cs
 | .tup cs=>fineVs cs
 | .fn _ cs=>fineVs cs
 | .iface _ a=>fineV a
 | _=>true
def fineVs:List AV→Bool
 | []=>true
 | a ::r=>fineV a && fineVs r
end
def Cw:SObj→Bool
 | .box c=>fineV c
 | .tailp _ _ _=>false
 | _=>true
mutual
def strip:AV→AV
 | .lst τ xs _=>.lst τ xs none
 | .agg cs=>.agg (strips cs)
 | .tup cs=>.tup (strips cs)
 | a=>a
def strips:List AV→List AV
 | []=>[]
 | a ::r=>strip a ::strips r
end
theorem jX (τ:Ty) (xs:List (den τ)):eQ τ τ xs=some xs:=by simp [eQ]
theorem wm (n:SN) (x:SD n):iB n n x=some x:=by simp [iB]
theorem wo (n:SN) (x:Option (SD n)):lB n n x=some x:=by simp [lB]
theorem oP (a:AV):px a a:=by cases a <;> trivial
mutual
theorem LeV_self (G:List Nat):∀a:AV,fineV a=true→LeV G a a
 | .undef,_=>bJ (by simp [LeF])
 | .int k n,_=>bJ (by simp [LeF])
 | .bool b,_=>bJ (by simp [LeF])
 | .str s,_=>bJ (by simp [LeF])
 | .lst τ xs o,_=>bJ (by simp [LeF,jX])
 | .nils,_=>bJ (by simp [LeF])
 | .ptr i o,_=>bJ (by simp [LeF])
 | .nilp,_=>bJ (by simp [LeF])
 | .pt n x,_=>bJ (by simp [LeF,wo])
 | .st n x,_=>bJ (by simp [LeF,wm])
 | .row τ xs,_=>bJ (by simp [LeF,jX])
 | .arr i n w,_=>bJ (by simp [LeF])
 | .aptr i n w o,_=>bJ (by simp [LeF])
 | .map i,_=>bJ (by simp [LeF])
 | .bptr i,_=>bJ (by simp [LeF])
 | .nilif,_=>bJ (by simp [LeF])
 | .nilm,_=>bJ (by simp [LeF])
 | .cptr c,h=>by simp only [fineV] at h;unfold LeV;exact ⟨oP c,LeV_self G c h⟩
 | .agg cs,h=>by simp only [fineV] at h;unfold LeV;exact LeL_self G cs h
 | .tup cs,h=>by simp only [fineV] at h;unfold LeV;exact LeL_self G cs h
 | .fn f cs,h=>by simp only [fineV] at h;unfold LeV;exact ⟨by simp,LeL_self G cs h⟩
 | .iface t a,h=>by simp only [fineV] at h;unfold LeV;exact ⟨by simp,LeV_self G a h⟩
 | .lstp _ _ _,h=>by cases h
 | .tptr _ _ _,h=>by cases h
theorem LeL_self (G:List Nat):∀l:List AV,fineVs l=true→LeL G l l
 | [],_=>by unfold LeL;trivial
 | a ::r,h=>by
  simp only [fineVs,Bool.and_eq_true] at h
  unfold LeL
  exact ⟨LeV_self G a h.1,LeL_self G r h.2⟩
end
mutual
theorem LeV_strip (G:List Nat):∀a:AV,fineV a=true→LeV G a (strip a)
 | .lst τ xs o,_=>by unfold strip;exact bJ (by simp [LeF,jX])
 | .agg cs,h=>by simp only [fineV] at h;unfold strip LeV;exact LeL_strip G cs h
 | .tup cs,h=>by simp only [fineV] at h;unfold strip LeV;exact LeL_strip G cs h
 | .undef,h=>LeV_self G _ h
 | .int k n,h=>LeV_self G _ h
 | .bool b,h=>LeV_self G _ h
 | .str s,h=>LeV_self G _ h
 | .nils,h=>LeV_self G _ h
 | .ptr i o,h=>LeV_self G _ h
 | .nilp,h=>LeV_self G _ h
 | .pt n x,h=>LeV_self G _ h
 | .st n x,h=>LeV_self G _ h
 | .row τ xs,h=>LeV_self G _ h
 | .arr i n w,h=>LeV_self G _ h
 | .aptr i n w o,h=>LeV_self G _ h
 | .map i,h=>LeV_self G _ h
 | .bptr i,h=>LeV_self G _ h
 | .nilif,h=>LeV_self G _ h
 | .nilm,h=>LeV_self G _ h
 | .cptr c,h=>LeV_self G _ h
 | .fn f cs,h=>LeV_self G _ h
 | .iface t a,h=>LeV_self G _ h
 | .lstp _ _ _,h=>by cases h
 | .tptr _ _ _,h=>by cases h
theorem LeL_strip (G:List Nat):∀l:List AV,fineVs l=true→LeL G l (strips l)
 | [],_=>by unfold strips LeL;trivial
 | a ::r,h=>by
  simp only [fineVs,Bool.and_eq_true] at h
  unfold strips LeL
  exact ⟨LeV_strip G a h.1,LeL_strip G r h.2⟩
end
theorem uc {G:List Nat} {s:St}:∀(l l':List AV) (k:Nat),LeL G l l'→(∀j,b8 s.t (k+j)=l.getD j .undef)→LeT G s (cv k l')
 | [],[],k,_,_=>trivial
 | a ::r,b ::r',k,h,hg=>by
  unfold LeL at h
  refine ⟨?_,uc r r' (k+1) h.2 fun j=>?_⟩
  ·have:=hg 0
   rw [Nat.add_zero] at this
   rw [this]
   exact h.1
  ·have:=hg (j+1)
   rw [show k+1+j=k+(j+1) by omega,this]
   rfl
 | [],_ ::_,_,h,_=>by unfold LeL at h;exact h.elim
 | _ ::_,[],_,h,_=>by unfold LeL at h;exact h.elim
theorem jd {G:List Nat} {s:St}:∀l:List (Nat × SObj),(∀x∈l,aw s.b x.1=some x.2/\Cw x.2=true)→LeB G s l
 | [],_=>trivial
 | (i,.box c) ::r,h=>by
  obtain ⟨h1,h2⟩:=h _ (List.mem_cons_self ..)
  refine ⟨?_,jd r fun x hx=>h x (List.mem_cons_of_mem _ hx)⟩
  simp only at h1
  rw [h1]
  exact ⟨oP c,LeV_self G c h2⟩
 | (i,.tail τ n) ::r,h=>by
  obtain ⟨h1,h2⟩:=h _ (List.mem_cons_self ..)
  refine ⟨?_,jd r fun x hx=>h x (List.mem_cons_of_mem _ hx)⟩
  simp only at h1
  rw [h1]
  simp
 | (i,.map κ τ m) ::r,h=>by
  obtain ⟨h1,h2⟩:=h _ (List.mem_cons_self ..)
  refine ⟨?_,jd r fun x hx=>h x (List.mem_cons_of_mem _ hx)⟩
  simp only at h1
  rw [h1]
  simp [wE]
 | (i,.bld t u l) ::r,h=>by
  obtain ⟨h1,h2⟩:=h _ (List.mem_cons_self ..)
  refine ⟨?_,jd r fun x hx=>h x (List.mem_cons_of_mem _ hx)⟩
  simp only at h1
  rw [h1]
  simp
 | (i,.tailp τ n x) ::r,h=>by
  obtain ⟨h1,h2⟩:=h _ (List.mem_cons_self ..)
  cases h2
end Go.AL
end
noncomputable section
namespace Go.AL
def mn (S:List (Nat × SObj)) (x:Nat × SObj):Bool:=match aw S x.1 with | some o=>eqO o x.2 | none=>false
def Bh:List AV→AV
 | [a]=>a
 | l=>.tup l
def Bi (s:St) (l:List AV):List (Nat × SObj):=
 s.b.filter fun x=>bz x.1 || (gB (aw s.b) 64 (ids.idsL l++(aM s.b).filter bz) []).contains x.1
def D6:Bool→List AV→List AV
 | true,l=>l
 | false,l=>strips l
def Bj (tok:Bool) (S:List (Nat × SObj)) (s:St) (l:List AV):Option Ans:=
 evVs (D6 tok l) fun l'=>evB (Bi s l') fun kept=>
  match fineVs l && (kept.all (fun x=>Cw x.2)) && b9 (aM s.b) && (aM S).all (fun i=>(aM kept).contains i) &&
    (df ((aM s.b).filter fun i=>!(aM kept).contains i) ⟨cv 0 l',kept⟩ && ((aM s.b).filter fun i=>!(aM kept).contains i).all (fun i=>!bz i)) with
  | true=>some ⟨none,none,Bh l',kept.filter fun x=>!mn S x⟩
  | false=>none
theorem mK:∀{l:List (Nat × SObj)},b9 (aM l)=true→∀{i:Nat} {o:SObj},(i,o)∈l→aw l i=some o
 | [],_,_,_,h=>by cases h
 | (j,u) ::r,hd,i,o,h=>by
  simp only [aM,List.map_cons,b9,Bool.and_eq_true,Bool.not_eq_true',List.contains_eq_mem,decide_eq_false_iff_not] at hd
  rcases List.mem_cons.1 h with e | e
  ·cases e;simp [aR,aN]
  ·have hne:¬j=i:=fun q=>hd.1 (List.mem_map.2 ⟨_,e,q.symm⟩)
   simp only [aR,aN,beq_iff_eq,hne,if_false]
   exact mK hd.2 e
theorem ff (p:Nat × SObj→Bool):∀{l:List (Nat × SObj)},b9 (aM l)=true→b9 (aM (l.filter p))=true
 | [],_=>rfl
 | x ::r,hd=>by
  simp only [aM,List.map_cons,b9,Bool.and_eq_true,Bool.not_eq_true',List.contains_eq_mem,decide_eq_false_iff_not] at hd
  have ih:=ff p hd.2
  rw [List.filter_cons]
  split
  ·simp only [aM,List.map_cons,b9,Bool.and_eq_true,Bool.not_eq_true',List.contains_eq_mem,decide_eq_false_iff_not]
   refine ⟨fun h=>hd.1 ?_,ih⟩
   obtain ⟨y,hy,e⟩:=List.mem_map.1 h
   exact List.mem_map.2 ⟨y,(List.mem_filter.1 hy).1,e⟩
  ·exact ih
variable [Tabs]
theorem Bk {l:List (Nat × SObj)} {i:Nat} (h:aw l i=none):i∉aM l:=gJ l i h
theorem oQ {l:List (Nat × SObj)} {i:Nat} (h:i∉aM l):aw l i=none:=by
 cases hb:aw l i with
 | none=>rfl
 | some o=>exact absurd (List.mem_map.2 ⟨(i,o),cb l i o hb,rfl⟩) h
theorem Cj {S kept:List (Nat × SObj)} (hd:b9 (aM kept)=true) (hS:∀i∈aM S,i∈aM kept):aw (bR S (kept.filter fun x=>!mn S x))=aw kept:=by
 funext i
 have hdf:=ff (fun x=>!mn S x) hd
 rw [lr _ S i hdf]
 cases hk:aw kept i with
 | some o=>
  have hm:=cb kept i o hk
  cases hs:mn S (i,o) with
  | false=>
   have:(i,o)∈kept.filter fun x=>!mn S x:=List.mem_filter.2 ⟨hm,by rw [hs];rfl⟩
   rw [mK hdf this]
   rfl
  | true=>
   have hn:aw (kept.filter fun x=>!mn S x) i=none:=by
    cases hb:aw (kept.filter fun x=>!mn S x) i with
    | none=>rfl
    | some o'=>
     have h1:=List.mem_filter.1 (cb _ i o' hb)
     have h2:=mK hd h1.1
     rw [hk] at h2
     cases h2
     have h3:=h1.2
     rw [hs] at h3
     cases h3
   rw [hn]
   unfold mn at hs
   split at hs
   ·rename_i o' ho'
    simp only at ho' hs
    rw [ho',zA hs]
    rfl
   ·cases hs
 | none=>
  have h1:i∉aM kept:=Bk hk
  rw [oQ (l:=S) fun h=>h1 (hS i h),oQ fun h=>h1 ?_]
  ·rfl
  ·obtain ⟨y,hy,e⟩:=List.mem_map.1 h
   exact List.mem_map.2 ⟨y,(List.mem_filter.1 hy).1,e⟩
theorem oR {G:List Nat}:∀{l m:List AV},LeL G l m→l.length=m.length
 | [],[],_=>rfl
 | _ ::_,_ ::_,h=>by unfold LeL at h;rw [List.length_cons,List.length_cons,oR h.2]
 | [],_ ::_,h=>by unfold LeL at h;exact h.elim
 | _ ::_,[],h=>by unfold LeL at h;exact h.elim
theorem zq {tok:Bool} {S:List (Nat × SObj)} {s:St} {l:List AV} {A:Ans} (h:Bj tok S s l=some A) :
  A.ob=none/\A.pan=none/\∃l' kept,A.val=Bh l'/\l'.length=l.length/\LeS ⟨cv 0 l,s.b⟩ ⟨cv 0 l',kept⟩/\aw (bR S A.upd)=aw kept:=by
 unfold Bj at h
 rw [evVs_eq,rL] at h
 split at h
 ·rename_i hc
  cases h
  simp only [Bool.and_eq_true,List.all_eq_true] at hc
  obtain ⟨⟨⟨⟨h1,h2⟩,h3⟩,h4⟩,h5,h6⟩:=hc
  refine ⟨rfl,rfl,D6 tok l,Bi s (D6 tok l),rfl,?_,⟨?_,?_,?_⟩,?_⟩
  ·cases tok with
   | true=>rfl
   | false=>exact (oR (LeL_strip [] l h1)).symm
  ·rw [if_pos]
   ·trivial
   ·rw [Bool.and_eq_true,List.all_eq_true]
    exact ⟨h5,h6⟩
  ·refine uc l _ 0 ?_ fun j=>?_
   ·cases tok with
    | true=>exact LeL_self _ l h1
    | false=>exact LeL_strip _ l h1
   ·show b8 (cv 0 l) (0+j)=_
    rw [eJ]
    simp
  ·refine jd _ fun x hx=>⟨?_,h2 x hx⟩
   exact mK h3 (List.mem_filter.1 hx).1
  ·refine Cj (ff _ h3) fun i hi=>?_
   have:=h4 i hi
   rwa [List.contains_eq_mem,decide_eq_true_eq] at this
 ·cases h
structure FB where
 body:Code
 n:Nat
 res:List ResultVar
 keep:Nat
 pubs:List (Nat × List Nat)
 pend:Nat→Bool
 rows:Nat→Bool
 same:Nat→Bool
 tok:Bool
 ps:List (Option Ty)
def Bl:Option Ty→AV→AV
 | some (.st n),a=>(match arg (.st n) a with | some x=>.st n x | none=>a)
 | _,a=>a
def xi:List (Option Ty)→List AV→List AV
 | p ::ps,a ::r=>Bl p a ::xi ps r
 | _,l=>l
def D7 (C:Cfg) (N:Nat) (x:FB) (args:List AV) (S:List (Nat × SObj)):Option Ans:=
 evVs (xi x.ps args) fun args=>evB S fun S=>
  match jy args x.n && (aM S).all bz with
  | false=>none
  | true=>
   match gN C x.keep x.pubs N x.body ⟨cv 0 args,S⟩ with
   | some (.normal,s)=>(match iy C.tbl s x.res with | some l=>Bj x.tok S s l | none=>none)
   | some (.ret,s)=>(match iy C.tbl s x.res with | some l=>Bj x.tok S s l | none=>none)
   | _=>none
variable {P:Program} {C:Cfg}
theorem Bm (p:Option Ty) (a:AV):Rd a (Bl p a):=by
 unfold Bl
 split
 ·split
  ·rename_i x hx;exact Rd.arg hx
  ·exact Rd.refl a
 ·exact Rd.refl a
theorem ud:∀(ps:List (Option Ty)) (l:List AV),RdL l (xi ps l)
 | [],l=>RdL.refl l
 | p ::ps,[]=>.nil
 | p ::ps,a ::r=>.cons (Bm p a) (ud ps r)
theorem runF_meets (hm:P.follows .mixedOrders=true) (hT:ba P C.tbl) (hS:bH P C.spec) {N:Nat} {x:FB} {f:Nat} {fn:Func} (hf:P.funcs[f]?=some fn) (hb:fn.body=some x.body) (hn:fn.ntmps=x.n) (hr:fn.results.toList=x.res)
  (hd:bB x.n x.body=true) {args:List AV} {S:List (Nat × SObj)} {A:Ans} (h:D7 C N x args S=some A):ax P f args S A:=by
 refine ax.args (ud x.ps args) ?_
 intro w pub e vs hp ht hv hs hdom hinj
 unfold D7 at h
 rw [evVs_eq,rL] at h
 split at h
 ·cases h
 ·rename_i hck
  simp only [Bool.and_eq_true,List.all_eq_true] at hck
  obtain ⟨hck2,hck3⟩:=hck
  have hlen:=dr _ _ hck2
  have hlent:∀id c,e id=some c→bz id=true:=by
   intro id c hc
   cases hg:aw S id with
   | none=>rw [hdom id hg] at hc;cases hc
   | some o=>exact hck3 id (List.mem_map.2 ⟨(id,o),cb _ _ _ hg,rfl⟩)
  have hrun:∃z s',gN C x.keep x.pubs N x.body ⟨cv 0 (xi x.ps args),S⟩=some (z,s')/\(match iy C.tbl s' x.res with | some l=>Bj x.tok S s' l | none=>none)=some A/\(z=.normal∨z=.ret):=by
   split at h
   ·rename_i s' hz;exact ⟨_,s',hz,h,.inl rfl⟩
   ·rename_i s' hz;exact ⟨_,s',hz,h,.inr rfl⟩
   ·cases h
  obtain ⟨z,s',hz,he,hzz⟩:=hrun
  refine calls_of_wp hf hb ?_
  have hh:=ij (n:=fn.ntmps) hp ht hv (by rw [hn];exact hlen) hs hdom hinj hlent
  rw [←hn] at hd
  refine wp_mono (wk (F:=⟨w,pub,fn.ntmps,e,hlent,[],ht⟩) hm hT hS _ _ N x.body _ z s' _ _ hz hd hh) ?_
  intro en a' w' hq
  obtain ⟨z2,s2,Ω',h1,h2,h3,h4,h5⟩:=hq
  subst h2 h4 h5
  have hmap:∀us,(fn.results.toList.mapM (lj a'.tmps)).run P Ω'.w=.ok us Ω'.w→
    (results fn a'.tmps).run P Ω'.w=.ok (if h:us.toArray.size=1 then us.toArray[0] else .tuple us.toArray) Ω'.w:=by
   intro us hus
   rw [jR,←Array.toArray_toList (xs:=fn.results),List.mapM_toArray]
   simp only [Sem.run_bind,Sem.run_map,hus,Result.andThen_ok,Sem.run_pure]
  have main:a'.defers=[]/\∃v,(results fn a'.tmps).run P Ω'.w=.ok v Ω'.w/\∃pub' e',(∀b pv u,A.pan=some (b,pv,u)→b=false)/\V ⟨e',Ω'.w,pub'⟩ A.val v/\After w pub e (aw (bR S A.upd)) Ω'.w pub' e':=by
   refine ⟨h3.defers,?_⟩
   split at he
   ·rename_i l hres
    rw [←hr] at hres
    obtain ⟨a1,a2,l',kept,a3,a4,a5,a6⟩:=zq he
    obtain ⟨us,k1,k2⟩:=dS hT h3 _ _ hres
    obtain ⟨Ω2,e2,hh2⟩:=dh (s:=⟨cv 0 l,s2.b⟩) (h3.retmp k2) a5
    rw [a3,a6]
    refine ⟨_,hmap us k1,Ω2.pub,Ω2.e,fun b pv u q=>(by rw [a2] at q;cases q),?_,by rw [←e2];exact fV hh2⟩
    have hval:∀(j:Nat) c v,l'[j]?=some c→us[j]?=some v→V ⟨Ω2.e,Ω'.w,Ω2.pub⟩ c v:=fun j c v hc hv=>by
     have:=hh2.tmps j
     simp only [St.abs,eJ,Nat.zero_le,if_true,Nat.sub_zero,List.getD_eq_getElem?_getD,hc,Option.getD_some] at this
     have e3:(us.toArray++Array.replicate 0 undef).getD j undef=v:=by
      simp [Array.getD_eq_getD_getElem?,hv]
     rw [e3] at this
     rw [←e2]
     exact this
    have hlu:l'.length=us.length:=a4.trans k2.1
    by_cases h1':us.toArray.size=1
    ·rw [dif_pos h1']
     obtain ⟨u,rfl⟩:=gL (l:=us) (by simpa using h1')
     obtain ⟨c,rfl⟩:=gL (l:=l') (by rw [hlu];rfl)
     exact hval 0 c u rfl rfl
    ·rw [dif_neg h1']
     have:Bh l'=.tup l':=by
      match l',hlu with
      | [],_=>rfl
      | [c],q=>exact absurd (by simpa using q.symm) h1'
      | _ ::_ ::_,_=>rfl
     rw [this]
     exact .tup l' us hlu hval
   ·cases he
  rcases hzz with rfl | rfl
  ·cases h1;exact main
  ·cases h1;exact main
def xj:List (Nat × FB)→Nat→Option FB
 | [],_=>none
 | (j,x) ::r,f=>if Nat.beq j f=true then some x else xj r f
def az (tbl:List (Nat × TR)) (fn:Func) (keep:Nat) (pubs:List (Nat × List Nat)) (pend rows same:Nat→Bool) (tok:Bool):FB:=
 ⟨fn.body.getD .skip,fn.ntmps,fn.results.toList,keep,pubs,pend,rows,same,tok,fn.params.toList.map fun t=>(aJ tbl t).bind (·.ty)⟩
def fbok (fn:Func):Bool:=match fn.body with | none=>false | some c=>bB fn.ntmps c && !(fn.name == "runtime.NumGoroutine")
def al (P:Program) (tab:List (Nat × FB)):Prop:=∀f x,xj tab f=some x→
 ∃fn,P.funcs[f]?=some fn/\fn.body=some x.body/\fn.ntmps=x.n/\fn.results.toList=x.res/\bB x.n x.body=true/\(fn.name == "runtime.NumGoroutine")=false
theorem al.nil:al P []:=fun f x h=>by cases h
theorem al.cons {tbl:List (Nat × TR)} {f:Nat} {fn:Func} {keep:Nat} {pubs:List (Nat × List Nat)} {pend rows same:Nat→Bool} {tok:Bool} {tab:List (Nat × FB)} (hf:P.funcs[f]?=some fn) (hc:fbok fn=true) (ht:al P tab) :
  al P ((f,az tbl fn keep pubs pend rows same tok) ::tab):=by
 intro g x h
 unfold xj at h
 split at h
 ·rename_i hb
  obtain rfl:=Nat.eq_of_beq_eq_true hb
  cases h
  unfold fbok at hc
  split at hc
  ·cases hc
  ·rename_i c hb'
   simp only [Bool.and_eq_true,Bool.not_eq_true'] at hc
   exact ⟨fn,hf,by simp [az,hb'],rfl,rfl,by simpa [az,hb'] using hc.1,hc.2⟩
 ·exact ht g x h
def zr (tbl:List (Nat × TR)) (tab:List (Nat × FB)) (keeps:Nat→Bool) (lends:Nat→List (Option Nat)) (N:Nat) (base:Nat→List AV→List (Nat × SObj)→Option Ans) :
  Nat→Nat→List AV→List (Nat × SObj)→Option Ans
 | 0,f,us,S=>base f us S
 | n+1,f,us,S=>
  match base f us S with
  | some A=>some A
  | none=>
  match xj tab f with
  | none=>none
  | some x=>D7 ⟨tbl,zr tbl tab keeps lends N base n,keeps,lends,x.pend,x.rows,x.same⟩ N x us S
theorem xk {tbl:List (Nat × TR)} {tab:List (Nat × FB)} {keeps:Nat→Bool} {lends:Nat→List (Option Nat)} {N:Nat} {base:Nat→List AV→List (Nat × SObj)→Option Ans}
  (hm:P.follows .mixedOrders=true) (hT:ba P tbl) (hB:bH P base) (ht:al P tab):∀n:Nat,bH P (zr tbl tab keeps lends N base n)
 | 0=>hB
 | n+1=>by
  intro f args S A h ho hl
  unfold zr at h
  split at h
  ·rename_i A' hb
   cases h
   exact hB f args S A hb ho hl
  split at h
  ·cases h
  ·rename_i x hx
   obtain ⟨fn,h1,h2,h3,h4,h5,h6⟩:=ht f x hx
   exact ⟨⟨fn,h1,by rw [h2];rfl,h6⟩,runF_meets hm hT (xk hm hT hB ht n) h1 h2 h3 h4 h5 h⟩
theorem ju {tbl:List (Nat × TR)} {tab:List (Nat × FB)} {keeps:Nat→Bool} {lends:Nat→List (Option Nat)} {N n f:Nat} {base:Nat→List AV→List (Nat × SObj)→Option Ans} {args:List AV} {v:AV} {u:List (Nat × SObj)}
  (hm:P.follows .mixedOrders=true) (hT:ba P tbl) (hB:bH P base) (ht:al P tab) (h:zr tbl tab keeps lends N base n f args []=some ⟨none,none,v,u⟩):ax P f args [] ⟨none,none,v,u⟩:=
 (xk hm hT hB ht n f args [] _ h (fun _ q=>by cases q) rfl).2
def tested (b:List AV→List (Nat × SObj)→Bool) (g:Pat):Pat:=fun args S=>match b args S,g args S with | true,some A=>some {A with ob:=none} | _,_=>none
theorem ai.tested {f:Nat} {g:Pat} {b:List AV→List (Nat × SObj)→Bool} (h:ai P f g) (hb:∀args S A q,b args S=true→g args S=some A→A.ob=some q→q):ai P f (tested b g):=by
 intro args S A hA ho hl
 unfold AL.tested at hA
 split at hA
 ·rename_i A' hbt hg
  cases hA
  exact h args S A' hg (fun q hq=>hb args S A' q hbt hg hq) hl
 ·cases hA
end Go.AL
end
noncomputable section
namespace Go.AL
variable [Tabs] {P:Program}
def q1 (τ:Ty) (b:den τ→Bool) (F:den τ→AV):Pat
 | [a],[]=>(match arg τ a with | some x=>(match b x with | true=>some (.ret (F x)) | false=>none) | none=>none)
 | _,_=>none
theorem Cx {f:Nat} {τ:Ty} {b:den τ→Bool} {F:den τ→AV} {O:den τ→Prop} (h:ai P f (p1 τ fun x=>⟨some (O x),none,F x,[]⟩)) (hb:∀x,b x=true→O x):ai P f (q1 τ b F):=by
 intro args S A hA ho hl
 unfold q1 at hA
 split at hA
 ·rename_i a
  split at hA
  ·rename_i x hx
   split at hA
   ·rename_i ht
    cases hA
    have k:=h [a] [] ⟨some (O x),none,F x,[]⟩ (by simp [p1,hx]) (fun q hq=>by cases hq;exact hb x ht) hl
    exact ⟨k.1,k.2⟩
   ·cases hA
  ·cases hA
 ·cases hA
def q2 (τ σ:Ty) (b:den τ→den σ→Bool) (F:den τ→den σ→AV):Pat
 | [a,c],[]=>(match arg τ a,arg σ c with | some x,some y=>(match b x y with | true=>some (.ret (F x y)) | false=>none) | _,_=>none)
 | _,_=>none
theorem xl {f:Nat} {τ σ:Ty} {b:den τ→den σ→Bool} {F:den τ→den σ→AV} {O:den τ→den σ→Prop} (h:ai P f (p2 τ σ fun x y=>⟨some (O x y),none,F x y,[]⟩)) (hb:∀x y,b x y=true→O x y):ai P f (q2 τ σ b F):=by
 intro args S A hA ho hl
 unfold q2 at hA
 split at hA
 ·rename_i a c
  split at hA
  ·rename_i x y hx hy
   split at hA
   ·rename_i ht
    cases hA
    have k:=h [a,c] [] ⟨some (O x y),none,F x y,[]⟩ (by simp [p2,hx,hy]) (fun q hq=>by cases hq;exact hb x y ht) hl
    exact ⟨k.1,k.2⟩
   ·cases hA
  ·cases hA
 ·cases hA
def ue (as0:List AV) (v:AV):Pat:=fun args S=>match eqVs as0 args,S with | true,[]=>some (.ret v) | _,_=>none
theorem rO {f:Nat} {as0:List AV} {v:AV} (he:aB P f) (h:ax P f as0 [] (.ret v)):ai P f (ue as0 v):=by
 intro args S A hA ho hl
 unfold ue at hA
 split at hA
 ·rename_i heq
  cases hA
  rw [←eqVs_ok _ _ heq]
  exact ⟨he,h⟩
 ·cases hA
def t1 (τ:Ty) (b:den τ→Bool):List AV→List (Nat × SObj)→Bool
 | [a],_=>(match arg τ a with | some x=>b x | none=>false)
 | _,_=>false
theorem Dv {f:Nat} {τ:Ty} {b:den τ→Bool} {F:den τ→Ans} (h:ai P f (p1 τ F)) (hb:∀x q,b x=true→(F x).ob=some q→q):ai P f (tested (t1 τ b) (p1 τ F)):=by
 refine h.tested fun args S A q ht hg ho=>?_
 unfold p1 at hg
 split at hg
 ·rename_i a
  split at hg
  ·rename_i x hx
   cases hg
   refine hb x q ?_ ho
   simpa [t1,hx] using ht
  ·cases hg
 ·cases hg
def xm:List AV→List (Nat × SObj)→Bool
 | _,[(_,.box (.lst .str zs _))]=>decide (zs.length *16<=140737488355328)
 | _,_=>false
theorem wq {f gv:Nat} (h:ai P f (dK gv)):ai P f (tested xm (dK gv)):=by
 refine h.tested fun args S A q hb hg ho=>?_
 unfold dK at hg
 split at hg
 ·split at hg
  ·cases hg
   cases ho
   exact Xo hb
  ·cases hg
 ·cases hg
def uf:List AV→List (Nat × SObj)→Bool
 | [.arr _ n _],[(_,.box (.row .str ss))]=>decide (n=ss.length)
 | _,_=>false
theorem ug {f:Nat} (h:ai P f dL):ai P f (tested uf dL):=by
 refine h.tested fun args S A q hb hg ho=>?_
 unfold dL at hg
 split at hg
 ·cases hg
  cases ho
  exact Xo hb
 ·cases hg
def jv:List Str→Bool
 | []=>true
 | x ::r=>!r.contains x && jv r
theorem kP:∀{l:List Str},jv l=true→l.Nodup
 | [],_=>List.nodup_nil
 | x ::r,h=>by
  unfold jv at h
  rw [Bool.and_eq_true,Bool.not_eq_true'] at h
  refine List.nodup_cons.2 ⟨fun q=>?_,kP h.2⟩
  have:=h.1
  rw [List.contains_eq_mem,decide_eq_false_iff_not] at this
  exact this q
def lA:List AV→List (Nat × SObj)→Bool
 | [.arr _ n _,_],[(_,.box (.row (.int .i64) xs)),(_,.box (.st .shape s))]=>
  decide (n=xs.length) && !xs.isEmpty && (xs.all fun x=>decide (0<=(x:Int)) && decide ((x:Int) < s.names.length)) && jv s.names && decide (xs.length < 4611686018427387904)
 | _,_=>false
theorem rP {f gc:Nat} (h:ai P f (dw gc)):ai P f (tested lA (dw gc)):=by
 refine h.tested fun args S A q hb hg ho=>?_
 unfold dw at hg
 split at hg
 ·split at hg
  ·cases hg
   cases ho
   unfold lA at hb
   simp only [Bool.and_eq_true,decide_eq_true_eq,Bool.not_eq_true',List.all_eq_true] at hb
   obtain ⟨⟨⟨⟨h1,h2⟩,h3⟩,h4⟩,h5⟩:=hb
   exact ⟨h1,(fun e=>by rw [e] at h2;cases h2),h3,kP h4,h5⟩
  ·cases hg
 ·cases hg
end Go.AL
end
noncomputable section
namespace Go.AL.Seat
open Go Go.AL Go.Proofs Go.Shelf Go.Pd
variable [Tabs]
def D8 (t:Str):Bool:=!t.isEmpty && decide (t.length<=15) && t.all fun c=>decide (48<=c.toNat) && decide (c.toNat<=57)
theorem Ck {t:Str} (h:D8 t=true):lW t:=by
 unfold D8 at h
 simp only [Bool.and_eq_true,Bool.not_eq_true',decide_eq_true_eq,List.all_eq_true] at h
 exact ⟨fun e=>(by rw [e] at h;exact absurd h.1.1 (by decide)),h.1.2,h.2⟩
def Bn:List (Nat × Pat):=
 [(186,p1 .str fun s=>.ret (.tup [.int .i32 ((il s).1:Int),.int .i64 ((il s).2:Int)])),
  (199,p2 .str (.int .u8) fun a c=>.ret (.int .i64 (Ad a c))),
  (129,q2 .str .str (fun _ b=>decide (b=nX)) fun a _=>.str (nY a)),
  (194,q2 .str .str (fun a b=>decide (b=[45]) && decide (a.length < 4294967281)) fun a _=>.tup [.str (gq a),.str (jU a),.bool (lk a)]),
  (195,q2 .str .str (fun a b=>decide (b=[46]) && decide (a.length < 4294967281)) fun a _=>.lst .str (splitB 46 a) none),
  (201,q2 .str .str (fun _ b=>decide (b.length=1)) fun a b=>.bool (decide (b.getD 0 0∈a))),
  (197,q1 .str D8 fun t=>.tup [.int .i64 (jI t),.nilif]),
  (64,q1 (.lst .str) (fun l=>decide (l.length *16<=140737488355328)) fun l=>.lst .str l none),
  (34,tested (t1 (.lst (.st .bind)) fun l=>decide (l.length *120<=140737488355328)) (p1 (.lst (.st .bind)) fun l=>⟨some (l.length *120<=140737488355328),none,.lst (.st .bind) l (some 5),[(5,.tail (.st .bind) l.length)]⟩)),
  (167,tested xm (dK 226)),
  (169,tested uf dL),
  (61,tested lA (dw 62)),
  (59,p1 (.st .shape) fun s=>.ret (.tup [.int .i64 (if sz s<=400 then (sz s:Int) else 401),.int .i64 (if sz s<=400 then deepS s 1 else 0),.bool (decide (sz s<=400))]))]
theorem kQ [SeatLaid]:bH Tryz.prog (gi Bn):=
 sc og (sc ph (sc (xl Ak fun _ _ h=>Xo h)
  (sc (xl BU fun _ _ h=>by rw [Bool.and_eq_true] at h;exact ⟨Xo h.1,Xo h.2⟩)
  (sc (xl yf fun _ _ h=>by rw [Bool.and_eq_true] at h;exact ⟨Xo h.1,Xo h.2⟩)
  (sc (xl qZ fun _ _ h=>Xo h) (sc (Cx Aj fun _ h=>Ck h)
  (sc (Cx lu fun _ h=>Xo h) (sc (Dv om fun _ q h e=>by cases e;exact Xo h)
  (sc (wq jV) (sc (ug j8) (sc (rP kC) (sc pN sn))))))))))))
end Go.AL.Seat
end
noncomputable section
namespace Go.AL.Seat
open Go Go.AL Go.Proofs
set_option maxRecDepth 1000000
variable [Tabs]
def Cy (f:Nat):List (Option Nat):=if Nat.beq f 67 || Nat.beq f 68 then [some 2] else []
def Cz (f:Nat):Bool:=false
def wu:List (Nat × FB):=(11,az tbl Tryz.f11 383 [] (fun _=>false) (fun _=>false) (fun d=>Nat.beq d 25 || Nat.beq d 27) false) ::(18,az tbl Tryz.f18 15 [] (fun _=>false) (fun _=>false) (fun _=>false) false) ::(19,az tbl Tryz.f19 4159 [] (fun _=>false) (fun _=>false) (fun _=>false) false) ::(28,az tbl Tryz.f28 4362109181 [] (fun _=>false) (fun _=>false) (fun _=>false) false) ::(12,az tbl Tryz.f12 1151 [] (fun _=>false) (fun _=>false) (fun _=>false) false) ::(35,az tbl Tryz.f35 1965 [] (fun _=>false) (fun _=>false) (fun d=>Nat.beq d 16) false) ::(36,az tbl Tryz.f36 4362109181 [] (fun _=>false) (fun _=>false) (fun _=>false) false) ::(46,az tbl Tryz.f46 77975715369647181664879229 [] (fun _=>false) (fun _=>false) (fun _=>false) false) ::(47,az tbl Tryz.f47 9016029707634675 [] (fun _=>false) (fun _=>false) (fun _=>false) false) ::(48,az tbl Tryz.f48 531 [] (fun _=>false) (fun _=>false) (fun _=>false) false) ::(21,az tbl Tryz.f21 74783 [] (fun _=>false) (fun _=>false) (fun _=>false) false) ::(29,az tbl Tryz.f29 19 [] (fun _=>false) (fun _=>false) (fun _=>false) false) ::(30,az tbl Tryz.f30 270664191 [] (fun _=>false) (fun _=>false) (fun _=>false) false) ::(53,az tbl Tryz.f53 5 [] (fun _=>false) (fun _=>false) (fun _=>false) false) ::(54,az tbl Tryz.f54 562984380336637 [] (fun _=>false) (fun _=>false) (fun _=>false) false) ::(55,az tbl Tryz.f55 1074004979 [] (fun _=>false) (fun _=>false) (fun _=>false) false) ::(56,az tbl Tryz.f56 531 [] (fun _=>false) (fun _=>false) (fun _=>false) false) ::(67,az tbl Tryz.f67 65555 [] (fun _=>false) (fun _=>false) (fun _=>false) false) ::(68,az tbl Tryz.f68 4294967347 [] (fun _=>false) (fun _=>false) (fun _=>false) false) ::(69,az tbl Tryz.f69 5 [] (fun _=>false) (fun _=>false) (fun _=>false) false) ::(70,az tbl Tryz.f70 8388935 [] (fun _=>false) (fun _=>false) (fun _=>false) false) ::(71,az tbl Tryz.f71 87112288527988523651034566703108870643455 [] (fun _=>false) (fun _=>false) (fun d=>Nat.beq d 21) false) ::(72,az tbl Tryz.f72 33816627 [] (fun _=>false) (fun _=>false) (fun _=>false) false) ::(73,az tbl Tryz.f73 5 [] (fun _=>false) (fun _=>false) (fun _=>false) false) ::(74,az tbl Tryz.f74 268439557 [] (fun _=>false) (fun _=>false) (fun _=>false) false) ::(75,az tbl Tryz.f75 81129648086015544455969055506495 [] (fun _=>false) (fun _=>false) (fun _=>false) false) ::(76,az tbl Tryz.f76 263 [] (fun _=>false) (fun _=>false) (fun _=>false) false) ::(37,az tbl Tryz.f37 2223863 [] (fun _=>false) (fun _=>false) (fun _=>false) false) ::(38,az tbl Tryz.f38 7 [] (fun _=>false) (fun _=>false) (fun _=>false) false) ::(49,az tbl Tryz.f49 89203661441933403568762194417536241417190911 [] (fun _=>false) (fun _=>false) (fun d=>Nat.beq d 49 || Nat.beq d 106 || Nat.beq d 124 || Nat.beq d 142 || Nat.beq d 143) false) ::(39,az tbl Tryz.f39 299063 [] (fun _=>false) (fun _=>false) (fun _=>false) false) ::(24,az tbl Tryz.f24 39 [] (fun _=>false) (fun _=>false) (fun _=>false) false) ::(91,az tbl Tryz.f91 37852736853667689267293 [] (fun _=>false) (fun _=>false) (fun _=>false) false) ::(92,az tbl Tryz.f92 5487058363987403117567667136273109224445 [] (fun _=>false) (fun _=>false) (fun _=>false) false) ::(93,az tbl Tryz.f93 139315 [] (fun _=>false) (fun _=>false) (fun _=>false) false) ::(94,az tbl Tryz.f94 17827827 [] (fun _=>false) (fun _=>false) (fun _=>false) false) ::(95,az tbl Tryz.f95 19 [] (fun _=>false) (fun _=>false) (fun _=>false) false) ::(120,az tbl Tryz.f120 549890048253 [] (fun _=>false) (fun _=>false) (fun _=>false) false) ::(121,az tbl Tryz.f121 71 [] (fun _=>false) (fun _=>false) (fun _=>false) false) ::(122,az tbl Tryz.f122 79 [] (fun _=>false) (fun _=>false) (fun _=>false) false) ::(123,az tbl Tryz.f123 5 [] (fun _=>false) (fun _=>false) (fun _=>false) false) ::(124,az tbl Tryz.f124 5 [] (fun _=>false) (fun _=>false) (fun _=>false) false) ::(125,az tbl Tryz.f125 5 [] (fun _=>false) (fun _=>false) (fun _=>false) false) ::(126,az tbl Tryz.f126 29 [] (fun _=>false) (fun _=>false) (fun _=>false) false) ::(100,az tbl Tryz.f100 5 [] (fun _=>false) (fun _=>false) (fun _=>false) false) ::(103,az tbl Tryz.f103 5 [] (fun _=>false) (fun _=>false) (fun _=>false) false) ::(127,az tbl Tryz.f127 5 [] (fun _=>false) (fun _=>false) (fun _=>false) false) ::(128,az tbl Tryz.f128 5 [] (fun _=>false) (fun _=>false) (fun _=>false) false) ::(130,az tbl Tryz.f130 151115799509488183025661 [] (fun _=>false) (fun _=>false) (fun _=>false) false) ::(131,az tbl Tryz.f131 618970019647202533975261693 [] (fun _=>false) (fun _=>false) (fun _=>false) false) ::(132,az tbl Tryz.f132 29 [] (fun _=>false) (fun _=>false) (fun _=>false) false) ::(133,az tbl Tryz.f133 3 [] (fun d=>Nat.beq d 8) (fun _=>false) (fun _=>false) false) ::(134,az tbl Tryz.f134 7 [] (fun d=>Nat.beq d 15) (fun _=>false) (fun _=>false) false) ::(137,az tbl Tryz.f137 275 [] (fun _=>false) (fun _=>false) (fun _=>false) false) ::(135,az tbl Tryz.f135 131 [] (fun _=>false) (fun _=>false) (fun _=>false) false) ::(139,az tbl Tryz.f139 7 [] (fun _=>false) (fun _=>false) (fun _=>false) false) ::(138,az tbl Tryz.f138 271375 [] (fun _=>false) (fun _=>false) (fun _=>false) false) ::(141,az tbl Tryz.f141 32819 [] (fun _=>false) (fun _=>false) (fun _=>false) false) ::(142,az tbl Tryz.f142 15 [] (fun _=>false) (fun _=>false) (fun _=>false) false) ::(143,az tbl Tryz.f143 17180524607 [] (fun _=>false) (fun _=>false) (fun _=>false) false) ::(57,az tbl Tryz.f57 3537148372723500476506894142080440715070649430595550180525943565456506895 [] (fun _=>false) (fun _=>false) (fun _=>false) false) ::(58,az tbl Tryz.f58 27 [] (fun _=>false) (fun _=>false) (fun _=>false) false) ::(77,az tbl Tryz.f77 2147492295 [] (fun _=>false) (fun _=>false) (fun _=>false) false) ::(78,az tbl Tryz.f78 160562833849755950391295 [] (fun _=>false) (fun _=>false) (fun d=>Nat.beq d 19 || Nat.beq d 49) false) ::(79,az tbl Tryz.f79 549789368831 [] (fun _=>false) (fun _=>false) (fun d=>Nat.beq d 15 || Nat.beq d 43) false) ::(16,az tbl Tryz.f16 23 [] (fun _=>false) (fun _=>false) (fun _=>false) false) ::(80,az tbl Tryz.f80 36031000339288063 [] (fun _=>false) (fun _=>false) (fun d=>Nat.beq d 45 || Nat.beq d 65) false) ::(81,az tbl Tryz.f81 102844040580930233559092546268346994287008189083989802508869631 [] (fun _=>false) (fun _=>false) (fun d=>Nat.beq d 55 || Nat.beq d 63 || Nat.beq d 86 || Nat.beq d 111 || Nat.beq d 118 || Nat.beq d 120 || Nat.beq d 136 || Nat.beq d 155 || Nat.beq d 167 || Nat.beq d 202 || Nat.beq d 203) false) ::(40,az tbl Tryz.f40 2159703 [] (fun _=>false) (fun _=>false) (fun _=>false) false) ::(60,az tbl Tryz.f60 10141204803006463002229839257615 [] (fun _=>false) (fun _=>false) (fun _=>false) false) ::(42,az tbl Tryz.f42 36219466547391 [] (fun _=>false) (fun _=>false) (fun _=>false) false) ::(150,az tbl Tryz.f150 9223376984926589309 [] (fun _=>false) (fun _=>false) (fun _=>false) false) ::(151,az tbl Tryz.f151 5 [] (fun _=>false) (fun _=>false) (fun _=>false) false) ::(152,az tbl Tryz.f152 5 [] (fun _=>false) (fun _=>false) (fun _=>false) false) ::(153,az tbl Tryz.f153 2147483661 [] (fun _=>false) (fun _=>false) (fun _=>false) false) ::(154,az tbl Tryz.f154 5 [] (fun _=>false) (fun _=>false) (fun _=>false) false) ::(116,az tbl Tryz.f116 5 [] (fun _=>false) (fun _=>false) (fun _=>false) false) ::(119,az tbl Tryz.f119 5 [] (fun _=>false) (fun _=>false) (fun _=>false) false) ::(155,az tbl Tryz.f155 5 [] (fun _=>false) (fun _=>false) (fun _=>false) false) ::(156,az tbl Tryz.f156 5070641086539181312813312250877 [] (fun _=>false) (fun d=>Nat.beq d 14) (fun _=>false) false) ::(157,az tbl Tryz.f157 16525 [] (fun _=>false) (fun _=>false) (fun _=>false) false) ::(158,az tbl Tryz.f158 19968563638923261082878717 [] (fun _=>false) (fun _=>false) (fun _=>false) false) ::(159,az tbl Tryz.f159 5 [] (fun _=>false) (fun _=>false) (fun _=>false) false) ::(160,az tbl Tryz.f160 5075558997068629606245683707891 [] (fun _=>false) (fun _=>false) (fun _=>false) false) ::(51,az tbl Tryz.f51 2343 [] (fun _=>false) (fun _=>false) (fun _=>false) false) ::(161,az tbl Tryz.f161 33043 [] (fun _=>false) (fun _=>false) (fun _=>false) false) ::(166,az tbl Tryz.f166 552075315 [] (fun _=>false) (fun _=>false) (fun _=>false) false) ::(196,az tbl Tryz.f196 5 [] (fun _=>false) (fun _=>false) (fun _=>false) false) ::(198,az tbl Tryz.f198 9316337836119 [] (fun _=>false) (fun _=>false) (fun _=>false) false) ::(200,az tbl Tryz.f200 5 [] (fun _=>false) (fun _=>false) (fun _=>false) false) ::(136,az tbl Tryz.f136 2228285 [] (fun _=>false) (fun _=>false) (fun _=>false) false) ::(203,az tbl Tryz.f203 51 [] (fun _=>false) (fun _=>false) (fun _=>false) false) ::(140,az tbl Tryz.f140 65587 [] (fun _=>false) (fun _=>false) (fun _=>false) false) ::(205,az tbl Tryz.f205 23945973599159813139139346461134680183357916012085311 [] (fun _=>false) (fun _=>false) (fun _=>false) false) ::(206,az tbl Tryz.f206 3 [] (fun d=>Nat.beq d 8) (fun _=>false) (fun _=>false) false) ::(96,az tbl Tryz.f96 7 [] (fun _=>false) (fun _=>false) (fun _=>false) false) ::(97,az tbl Tryz.f97 27 [] (fun _=>false) (fun _=>false) (fun _=>false) false) ::(98,az tbl Tryz.f98 7 [] (fun _=>false) (fun _=>false) (fun _=>false) false) ::(99,az tbl Tryz.f99 2098133 [] (fun _=>false) (fun _=>false) (fun _=>false) false) ::(101,az tbl Tryz.f101 13 [] (fun _=>false) (fun _=>false) (fun _=>false) false) ::(102,az tbl Tryz.f102 27 [] (fun _=>false) (fun _=>false) (fun _=>false) false) ::(105,az tbl Tryz.f105 15 [] (fun _=>false) (fun _=>false) (fun _=>false) false) ::(104,az tbl Tryz.f104 19 [] (fun _=>false) (fun _=>false) (fun _=>false) false) ::(144,az tbl Tryz.f144 8389119 [] (fun _=>false) (fun _=>false) (fun _=>false) false) ::(145,az tbl Tryz.f145 66483 [] (fun _=>false) (fun _=>false) (fun _=>false) false) ::(146,az tbl Tryz.f146 67172223 [] (fun _=>false) (fun _=>false) (fun _=>false) true) ::(109,az tbl Tryz.f109 4444215 [] (fun _=>false) (fun _=>false) (fun _=>false) false) ::(110,az tbl Tryz.f110 5 [] (fun _=>false) (fun _=>false) (fun _=>false) false) ::(62,az tbl Tryz.f62 39 [] (fun _=>false) (fun _=>false) (fun d=>Nat.beq d 16) false) ::(212,az tbl Tryz.f212 5 [] (fun _=>false) (fun _=>false) (fun _=>false) false) ::(213,az tbl Tryz.f213 8389645 [] (fun _=>false) (fun _=>false) (fun _=>false) false) ::(214,az tbl Tryz.f214 131635 [] (fun _=>false) (fun _=>false) (fun _=>false) false) ::(215,az tbl Tryz.f215 8388767 [] (fun _=>false) (fun _=>false) (fun _=>false) false) ::(216,az tbl Tryz.f216 2097779 [] (fun _=>false) (fun _=>false) (fun _=>false) false) ::(217,az tbl Tryz.f217 4295 [] (fun _=>false) (fun _=>false) (fun _=>false) false) ::(218,az tbl Tryz.f218 66503 [] (fun _=>false) (fun _=>false) (fun _=>false) false) ::(219,az tbl Tryz.f219 199 [] (fun _=>false) (fun _=>false) (fun _=>false) false) ::(220,az tbl Tryz.f220 316931992907069184984647990303 [] (fun _=>false) (fun _=>false) (fun _=>false) false) ::(221,az tbl Tryz.f221 73796001086816403443 [] (fun _=>false) (fun _=>false) (fun _=>false) false) ::(33,az tbl Tryz.f33 65655 [] (fun _=>false) (fun _=>false) (fun _=>false) false) ::(88,az tbl Tryz.f88 2098239 [] (fun _=>false) (fun _=>false) (fun _=>false) false) ::(89,az tbl Tryz.f89 1050703 [] (fun _=>false) (fun _=>false) (fun _=>false) false) ::(241,az tbl Tryz.f241 18014398524686365 [] (fun _=>false) (fun _=>false) (fun _=>false) false) ::(202,az tbl Tryz.f202 324677087359430077278579446644799 [] (fun d=>Nat.beq d 129) (fun _=>false) (fun _=>false) false) ::(204,az tbl Tryz.f204 19 [] (fun _=>false) (fun _=>false) (fun _=>false) false) ::(248,az tbl Tryz.f248 3 [] (fun d=>Nat.beq d 23) (fun _=>false) (fun _=>false) false) ::(249,az tbl Tryz.f249 13 [] (fun _=>false) (fun _=>false) (fun _=>false) false) ::(163,az tbl Tryz.f163 15 [] (fun _=>false) (fun _=>false) (fun _=>false) false) ::(162,az tbl Tryz.f162 19 [] (fun _=>false) (fun _=>false) (fun _=>false) false) ::(164,az tbl Tryz.f164 7 [] (fun _=>false) (fun _=>false) (fun _=>false) false) ::(168,az tbl Tryz.f168 7 [] (fun _=>false) (fun _=>false) (fun _=>false) false) ::(171,az tbl Tryz.f171 11 [] (fun _=>false) (fun _=>false) (fun _=>false) false) ::(170,az tbl Tryz.f170 19 [] (fun _=>false) (fun _=>false) (fun _=>false) false) ::(172,az tbl Tryz.f172 66483 [] (fun _=>false) (fun _=>false) (fun _=>false) false) ::(207,az tbl Tryz.f207 31 [] (fun _=>false) (fun _=>false) (fun d=>Nat.beq d 7 || Nat.beq d 9 || Nat.beq d 12) false) ::(208,az tbl Tryz.f208 553657335 [] (fun _=>false) (fun _=>false) (fun d=>Nat.beq d 19 || Nat.beq d 20) false) ::(63,az tbl Tryz.f63 19 [] (fun _=>false) (fun _=>false) (fun _=>false) false) ::(256,az tbl Tryz.f256 72341542915801119 [] (fun _=>false) (fun _=>false) (fun _=>false) false) ::(257,az tbl Tryz.f257 4125 [] (fun _=>false) (fun _=>false) (fun _=>false) false) ::(258,az tbl Tryz.f258 68987920327 [] (fun _=>false) (fun _=>false) (fun _=>false) false) ::(149,az tbl Tryz.f149 2557586548459967842939230490655 [] (fun _=>false) (fun _=>false) (fun _=>false) false) ::(244,az tbl Tryz.f244 7 [] (fun d=>Nat.beq d 21) (fun _=>false) (fun _=>false) false) ::(246,az tbl Tryz.f246 149971 [] (fun _=>false) (fun _=>false) (fun _=>false) false) ::(247,az tbl Tryz.f247 3 [] (fun d=>Nat.beq d 8) (fun _=>false) (fun _=>false) false) ::(222,az tbl Tryz.f222 66483 [] (fun _=>false) (fun _=>false) (fun _=>false) false) ::(226,az tbl Tryz.f226 16883 [] (fun _=>false) (fun _=>false) (fun _=>false) false) ::(227,az tbl Tryz.f227 66483 [] (fun _=>false) (fun _=>false) (fun _=>false) false) ::(250,az tbl Tryz.f250 31 [] (fun _=>false) (fun _=>false) (fun _=>false) false) ::(251,az tbl Tryz.f251 1 [] (fun _=>false) (fun _=>false) (fun _=>false) false) ::(252,az tbl Tryz.f252 179799758744771528110887069003277459880165367 [] (fun _=>false) (fun _=>false) (fun d=>Nat.beq d 71 || Nat.beq d 87 || Nat.beq d 98 || Nat.beq d 103) false) ::(254,az tbl Tryz.f254 3885 [] (fun _=>false) (fun _=>false) (fun _=>false) false) ::(253,az tbl Tryz.f253 2203049797495 [] (fun _=>false) (fun _=>false) (fun _=>false) false) ::(113,az tbl Tryz.f113 19 [] (fun _=>false) (fun _=>false) (fun _=>false) false) ::(278,az tbl Tryz.f278 33309 [] (fun _=>false) (fun _=>false) (fun _=>false) false) ::(279,az tbl Tryz.f279 36028797018964541 [] (fun _=>false) (fun _=>false) (fun _=>false) false) ::(211,az tbl Tryz.f211 4297327731 [] (fun _=>false) (fun _=>false) (fun _=>false) false) ::(245,az tbl Tryz.f245 5 [] (fun _=>false) (fun _=>false) (fun _=>false) false) ::(273,az tbl Tryz.f273 79 [] (fun _=>false) (fun _=>false) (fun _=>false) false) ::(274,az tbl Tryz.f274 2103 [] (fun _=>false) (fun _=>false) (fun _=>false) false) ::(275,az tbl Tryz.f275 11 [] (fun _=>false) (fun _=>false) (fun _=>false) false) ::(277,az tbl Tryz.f277 1079 [] (fun _=>false) (fun _=>false) (fun _=>false) false) ::(276,az tbl Tryz.f276 251 [] (fun _=>false) (fun _=>false) (fun _=>false) false) ::(299,az tbl Tryz.f299 524429 [] (fun _=>false) (fun _=>false) (fun _=>false) false) ::[]
theorem jw:al Tryz.prog wu:=al.cons Tryz.func11 (by kernel_rfl) (al.cons Tryz.func18 (by kernel_rfl) (al.cons Tryz.func19 (by kernel_rfl) (al.cons Tryz.func28 (by kernel_rfl) (al.cons Tryz.func12 (by kernel_rfl) (al.cons Tryz.func35 (by kernel_rfl) (al.cons Tryz.func36 (by kernel_rfl) (al.cons Tryz.func46 (by kernel_rfl) (al.cons Tryz.func47 (by kernel_rfl) (al.cons Tryz.func48 (by kernel_rfl) (al.cons Tryz.func21 (by kernel_rfl) (al.cons Tryz.func29 (by kernel_rfl) (al.cons Tryz.func30 (by kernel_rfl) (al.cons Tryz.func53 (by kernel_rfl) (al.cons Tryz.func54 (by kernel_rfl) (al.cons Tryz.func55 (by kernel_rfl) (al.cons Tryz.func56 (by kernel_rfl) (al.cons Tryz.func67 (by kernel_rfl) (al.cons Tryz.func68 (by kernel_rfl) (al.cons Tryz.func69 (by kernel_rfl) (al.cons Tryz.func70 (by kernel_rfl) (al.cons Tryz.func71 (by kernel_rfl) (al.cons Tryz.func72 (by kernel_rfl) (al.cons Tryz.func73 (by kernel_rfl) (al.cons Tryz.func74 (by kernel_rfl) (al.cons Tryz.func75 (by kernel_rfl) (al.cons Tryz.func76 (by kernel_rfl) (al.cons Tryz.func37 (by kernel_rfl) (al.cons Tryz.func38 (by kernel_rfl) (al.cons Tryz.func49 (by kernel_rfl) (al.cons Tryz.func39 (by kernel_rfl) (al.cons Tryz.func24 (by kernel_rfl) (al.cons Tryz.func91 (by kernel_rfl) (al.cons Tryz.func92 (by kernel_rfl) (al.cons Tryz.func93 (by kernel_rfl) (al.cons Tryz.func94 (by kernel_rfl) (al.cons Tryz.func95 (by kernel_rfl) (al.cons Tryz.func120 (by kernel_rfl) (al.cons Tryz.func121 (by kernel_rfl) (al.cons Tryz.func122 (by kernel_rfl) (al.cons Tryz.func123 (by kernel_rfl) (al.cons Tryz.func124 (by kernel_rfl) (al.cons Tryz.func125 (by kernel_rfl) (al.cons Tryz.func126 (by kernel_rfl) (al.cons Tryz.func100 (by kernel_rfl) (al.cons Tryz.func103 (by kernel_rfl) (al.cons Tryz.func127 (by kernel_rfl) (al.cons Tryz.func128 (by kernel_rfl) (al.cons Tryz.func130 (by kernel_rfl) (al.cons Tryz.func131 (by kernel_rfl) (al.cons Tryz.func132 (by kernel_rfl) (al.cons Tryz.func133 (by kernel_rfl) (al.cons Tryz.func134 (by kernel_rfl) (al.cons Tryz.func137 (by kernel_rfl) (al.cons Tryz.func135 (by kernel_rfl) (al.cons Tryz.func139 (by kernel_rfl) (al.cons Tryz.func138 (by kernel_rfl) (al.cons Tryz.func141 (by kernel_rfl) (al.cons Tryz.func142 (by kernel_rfl) (al.cons Tryz.func143 (by kernel_rfl) (al.cons Tryz.func57 (by kernel_rfl) (al.cons Tryz.func58 (by kernel_rfl) (al.cons Tryz.func77 (by kernel_rfl) (al.cons Tryz.func78 (by kernel_rfl) (al.cons Tryz.func79 (by kernel_rfl) (al.cons Tryz.func16 (by kernel_rfl) (al.cons Tryz.func80 (by kernel_rfl) (al.cons Tryz.func81 (by kernel_rfl) (al.cons Tryz.func40 (by kernel_rfl) (al.cons Tryz.func60 (by kernel_rfl) (al.cons Tryz.func42 (by kernel_rfl) (al.cons Tryz.func150 (by kernel_rfl) (al.cons Tryz.func151 (by kernel_rfl) (al.cons Tryz.func152 (by kernel_rfl) (al.cons Tryz.func153 (by kernel_rfl) (al.cons Tryz.func154 (by kernel_rfl) (al.cons Tryz.func116 (by kernel_rfl) (al.cons Tryz.func119 (by kernel_rfl) (al.cons Tryz.func155 (by kernel_rfl) (al.cons Tryz.func156 (by kernel_rfl) (al.cons Tryz.func157 (by kernel_rfl) (al.cons Tryz.func158 (by kernel_rfl) (al.cons Tryz.func159 (by kernel_rfl) (al.cons Tryz.func160 (by kernel_rfl) (al.cons Tryz.func51 (by kernel_rfl) (al.cons Tryz.func161 (by kernel_rfl) (al.cons Tryz.func166 (by kernel_rfl) (al.cons Tryz.func196 (by kernel_rfl) (al.cons Tryz.func198 (by kernel_rfl) (al.cons Tryz.func200 (by kernel_rfl) (al.cons Tryz.func136 (by kernel_rfl) (al.cons Tryz.func203 (by kernel_rfl) (al.cons Tryz.func140 (by kernel_rfl) (al.cons Tryz.func205 (by kernel_rfl) (al.cons Tryz.func206 (by kernel_rfl) (al.cons Tryz.func96 (by kernel_rfl) (al.cons Tryz.func97 (by kernel_rfl) (al.cons Tryz.func98 (by kernel_rfl) (al.cons Tryz.func99 (by kernel_rfl) (al.cons Tryz.func101 (by kernel_rfl) (al.cons Tryz.func102 (by kernel_rfl) (al.cons Tryz.func105 (by kernel_rfl) (al.cons Tryz.func104 (by kernel_rfl) (al.cons Tryz.func144 (by kernel_rfl) (al.cons Tryz.func145 (by kernel_rfl) (al.cons Tryz.func146 (by kernel_rfl) (al.cons Tryz.func109 (by kernel_rfl) (al.cons Tryz.func110 (by kernel_rfl) (al.cons Tryz.func62 (by kernel_rfl) (al.cons Tryz.func212 (by kernel_rfl) (al.cons Tryz.func213 (by kernel_rfl) (al.cons Tryz.func214 (by kernel_rfl) (al.cons Tryz.func215 (by kernel_rfl) (al.cons Tryz.func216 (by kernel_rfl) (al.cons Tryz.func217 (by kernel_rfl) (al.cons Tryz.func218 (by kernel_rfl) (al.cons Tryz.func219 (by kernel_rfl) (al.cons Tryz.func220 (by kernel_rfl) (al.cons Tryz.func221 (by kernel_rfl) (al.cons Tryz.func33 (by kernel_rfl) (al.cons Tryz.func88 (by kernel_rfl) (al.cons Tryz.func89 (by kernel_rfl) (al.cons Tryz.func241 (by kernel_rfl) (al.cons Tryz.func202 (by kernel_rfl) (al.cons Tryz.func204 (by kernel_rfl) (al.cons Tryz.func248 (by kernel_rfl) (al.cons Tryz.func249 (by kernel_rfl) (al.cons Tryz.func163 (by kernel_rfl) (al.cons Tryz.func162 (by kernel_rfl) (al.cons Tryz.func164 (by kernel_rfl) (al.cons Tryz.func168 (by kernel_rfl) (al.cons Tryz.func171 (by kernel_rfl) (al.cons Tryz.func170 (by kernel_rfl) (al.cons Tryz.func172 (by kernel_rfl) (al.cons Tryz.func207 (by kernel_rfl) (al.cons Tryz.func208 (by kernel_rfl) (al.cons Tryz.func63 (by kernel_rfl) (al.cons Tryz.func256 (by kernel_rfl) (al.cons Tryz.func257 (by kernel_rfl) (al.cons Tryz.func258 (by kernel_rfl) (al.cons Tryz.func149 (by kernel_rfl) (al.cons Tryz.func244 (by kernel_rfl) (al.cons Tryz.func246 (by kernel_rfl) (al.cons Tryz.func247 (by kernel_rfl) (al.cons Tryz.func222 (by kernel_rfl) (al.cons Tryz.func226 (by kernel_rfl) (al.cons Tryz.func227 (by kernel_rfl) (al.cons Tryz.func250 (by kernel_rfl) (al.cons Tryz.func251 (by kernel_rfl) (al.cons Tryz.func252 (by kernel_rfl) (al.cons Tryz.func254 (by kernel_rfl) (al.cons Tryz.func253 (by kernel_rfl) (al.cons Tryz.func113 (by kernel_rfl) (al.cons Tryz.func278 (by kernel_rfl) (al.cons Tryz.func279 (by kernel_rfl) (al.cons Tryz.func211 (by kernel_rfl) (al.cons Tryz.func245 (by kernel_rfl) (al.cons Tryz.func273 (by kernel_rfl) (al.cons Tryz.func274 (by kernel_rfl) (al.cons Tryz.func275 (by kernel_rfl) (al.cons Tryz.func277 (by kernel_rfl) (al.cons Tryz.func276 (by kernel_rfl) (al.cons Tryz.func299 (by kernel_rfl) (al.nil)))))))))))))))))))))))))))))))))))))))))))))))))))))))))))))))))))))))))))))))))))))))))))))))))))))))))))))))))))))))))))))))))))))))))))))))))))))))))))))))))))
abbrev D9:=zr tbl wu Cz Cy 5000 (gi Bn) 100
end Go.AL.Seat
end
noncomputable section
namespace Go.AL.Seat
open Go Go.AL Go.Proofs Go.Pd
set_option maxRecDepth 1000000
def Da:Str:=[40,102,117,110,32,40,120,58,32,73,110,116,41,32,45,62,32,123,97,32,61,32,120,125,41,40,49,41,46,97]
def Db:Str:=[97,100,100,40,49,44,32,116,114,117,101,41]
def Dc:AV:=(.tup [(.agg [(.int .i64 9),(.str []),(.str [97]),(.int .i64 0),.nils,.nils,.nils,(.lst (.st .term) [⟨7,[],[],0,[],[],[],[⟨6,[],[],0,[[120]],[],[⟨1,[],[],[],[]⟩],[⟨8,[],[],0,[[97]],[],[],[⟨5,[],[120],0,[],[],[],[],22⟩],17⟩],1⟩,⟨1,[],[],1,[],[],[],[],26⟩],0⟩] none),(.int .i64 0)]),(.agg [(.int .i64 0),(.int .i64 0)])])
def Dd:AV:=(.tup [(.agg [(.int .i64 7),(.str []),(.str []),(.int .i64 0),.nils,.nils,.nils,(.lst (.st .term) [⟨5,[],[97,100,100],0,[],[],[],[],0⟩,⟨1,[],[],1,[],[],[],[],4⟩,⟨3,[],[],0,[],[],[],[],7⟩] none),(.int .i64 0)]),(.agg [(.int .i64 0),(.int .i64 0)])])
def Bp:List Bndg:=[⟨[],[97,100,100],⟨8,[],[],[],[⟨1,[],[],[],[]⟩,⟨1,[],[],[],[]⟩,⟨1,[],[],[],[]⟩]⟩⟩,⟨[],[115,117,98],⟨8,[],[],[],[⟨1,[],[],[],[]⟩,⟨1,[],[],[],[]⟩,⟨1,[],[],[],[]⟩]⟩⟩,⟨[],[109,117,108],⟨8,[],[],[],[⟨1,[],[],[],[]⟩,⟨1,[],[],[],[]⟩,⟨1,[],[],[],[]⟩]⟩⟩,⟨[],[108,101,115,115],⟨8,[],[],[],[⟨1,[],[],[],[]⟩,⟨1,[],[],[],[]⟩,⟨2,[],[],[],[]⟩]⟩⟩,⟨[],[115,97,109,101],⟨8,[],[],[],[⟨1,[],[],[],[]⟩,⟨1,[],[],[],[]⟩,⟨2,[],[],[],[]⟩]⟩⟩,⟨[],[110,111,116],⟨8,[],[],[],[⟨2,[],[],[],[]⟩,⟨2,[],[],[],[]⟩]⟩⟩,⟨[],[98,111,116,104],⟨8,[],[],[],[⟨2,[],[],[],[]⟩,⟨2,[],[],[],[]⟩,⟨2,[],[],[],[]⟩]⟩⟩,⟨[],[99,97,116],⟨8,[],[],[],[⟨3,[],[],[],[]⟩,⟨3,[],[],[],[]⟩,⟨3,[],[],[],[]⟩]⟩⟩,⟨[],[115,105,122,101],⟨8,[],[],[],[⟨3,[],[],[],[]⟩,⟨1,[],[],[],[]⟩]⟩⟩,⟨[],[115,104,111,119],⟨8,[],[],[],[⟨1,[],[],[],[]⟩,⟨3,[],[],[],[]⟩]⟩⟩]
variable [Tabs] [SeatLaid]
theorem run1:ax Tryz.prog 28 [.str Da] [] (.ret Dc):=ju (n:=100) mixed oi kQ jw (by kernel_rfl:D9 28 [.str Da] []=some ⟨none,none,Dc,[]⟩)
theorem run2:ax Tryz.prog 28 [.str Db] [] (.ret Dd):=ju (n:=100) mixed oi kQ jw (by kernel_rfl:D9 28 [.str Db] []=some ⟨none,none,Dd,[]⟩)
theorem run3:ax Tryz.prog 18 [] [] (.ret (.lst (.st .bind) Bp none)):=ju (n:=100) mixed oi kQ jw (by kernel_rfl:D9 18 [] []=some ⟨none,none,.lst (.st .bind) Bp none,[]⟩)
def CA:List (Nat × Pat):=(28,ue [.str Da] Dc) ::(28,ue [.str Db] Dd) ::(18,ue [] (.lst (.st .bind) Bp none)) ::Bn
theorem Bq:bH Tryz.prog (gi CA):=sc (rO (ee Tryz.func28) run1) (sc (rO (ee Tryz.func28) run2) (sc (rO (ee Tryz.func18) run3) kQ))
abbrev Dw:=zr tbl wu Cz Cy 5000 (gi CA) 100
end Go.AL.Seat
end
noncomputable section
namespace Go.AL.Seat
open Go Go.AL Go.Proofs Go.Pd
set_option maxRecDepth 1000000
variable [Tabs] [SeatLaid]
theorem run5:ax Tryz.prog 11 [] [] (.ret (.bool true)):=ju (n:=100) mixed oi Bq jw (by kernel_rfl:Dw 11 [] []=some ⟨none,none,.bool true,[]⟩)
theorem uh:ai Tryz.prog 11 (p0 (.ret (.bool true))):=Cu (ee Tryz.func11) run5
end Go.AL.Seat
end
