/- What the functions' conditions say, proved. The contracts of the functions. The layer: Go code as conditions, and that they are sound. Plain facts. No condition. -/
import Derived.Test.YtpiedfeneggkmaaGreatDoorT05
import Derived.LoopN
set_option linter.all false
set_option maxRecDepth 100000
section
open Go Go.AL Go.Pd
namespace Go.AL.Seat
theorem tU (s:Shape) (hs:Wf (.st .shape) s) :
  if (!decide (ax s=(0:Int)))=true then True/\(0:Int)=(au s []).1.kind/\[]=(au s []).1.pkg/\[]=(au s []).1.name/\(au s []).1.names=[]/\(au s []).1.parts=[]/\ax s=(au s []).2/\True else (sz s<=(400:Nat)/\(400:Nat)<=(400:Nat)/\allS aq s=true)/\if (!Option.isSome (fillS (b6 []) s))=true then True/\(0:Int)=(au s []).1.kind/\[]=(au s []).1.pkg/\[]=(au s []).1.name/\(au s []).1.names=[]/\(au s []).1.parts=[]/\(110:Int)=(au s []).2/\True else if (!decide (ax (Option.getD (fillS (b6 []) s) ao)=(0:Int)))=true then True/\(0:Int)=(au s []).1.kind/\[]=(au s []).1.pkg/\[]=(au s []).1.name/\(au s []).1.names=[]/\(au s []).1.parts=[]/\ax (Option.getD (fillS (b6 []) s) ao)=(au s []).2/\True else True/\aM (Option.getD (fillS (b6 []) s) ao)=(au s []).1/\(0:Int)=(au s []).2/\True:=by
 have hr:au s []=if ax s=0 then (match fillS (b6 []) s with | none=>(ao,110) | some q=>if ax q=0 then (aM q,0) else (ao,ax q)) else (ao,ax s):=by
  unfold au;rw [←tI];try rfl
 refine ab (fun h=>?_) (fun h=>?_)
 ·have h:¬ax s=0:=by simpa using h
  rw [hr,if_neg h]
  exact ⟨trivial,rfl,rfl,rfl,rfl,rfl,rfl,trivial⟩
 ·have h:ax s=0:=by simpa using h
  rw [hr,if_pos h]
  have c:=cK h
  refine ⟨⟨c.1,Nat.le_refl _,c.2.2⟩,?_⟩
  cases hq:fillS (b6 []) s with
  | none=>exact ab (fun _=>⟨trivial,rfl,rfl,rfl,rfl,rfl,rfl,trivial⟩) (fun g=>absurd rfl g)
  | some q=>
   refine ab (fun g=>absurd g Bool.false_ne_true) (fun _=>ab (fun g=>?_) (fun g=>?_))
   ·have g:¬ax q=0:=by simpa using g
    dsimp only
    rw [if_neg g]
    exact ⟨trivial,rfl,rfl,rfl,rfl,rfl,rfl,trivial⟩
   ·have g:ax q=0:=by simpa using g
    dsimp only
    rw [if_pos g]
    exact ⟨trivial,rfl,rfl,trivial⟩
theorem wh (s:Shape) (b:Bndg) (r:List Bndg) (hs:Wf (.st .shape) s) (hl:Wf (.lst (.st .bind)) (b ::r)) :
  if (!decide (ax s=(0:Int)))=true then True/\(0:Int)=(au s (b ::r)).1.kind/\[]=(au s (b ::r)).1.pkg/\[]=(au s (b ::r)).1.name/\(au s (b ::r)).1.names=[]/\(au s (b ::r)).1.parts=[]/\ax s=(au s (b ::r)).2/\True else (sz s<=(400:Nat)/\(400:Nat)<=(400:Nat)/\allS aq s=true)/\if (!Option.isSome (fillS (b6 (gx (b ::r))) s))=true then True/\(0:Int)=(au s (b ::r)).1.kind/\[]=(au s (b ::r)).1.pkg/\[]=(au s (b ::r)).1.name/\(au s (b ::r)).1.names=[]/\(au s (b ::r)).1.parts=[]/\(110:Int)=(au s (b ::r)).2/\True else if (!decide (ax (Option.getD (fillS (b6 (gx (b ::r))) s) ao)=(0:Int)))=true then True/\(0:Int)=(au s (b ::r)).1.kind/\[]=(au s (b ::r)).1.pkg/\[]=(au s (b ::r)).1.name/\(au s (b ::r)).1.names=[]/\(au s (b ::r)).1.parts=[]/\ax (Option.getD (fillS (b6 (gx (b ::r))) s) ao)=(au s (b ::r)).2/\True else True/\aM (Option.getD (fillS (b6 (gx (b ::r))) s) ao)=(au s (b ::r)).1/\(0:Int)=(au s (b ::r)).2/\True:=by
 have hr:au s (b ::r)=if ax s=0 then (match fillS (b6 (gx (b ::r))) s with | none=>(ao,110) | some q=>if ax q=0 then (aM q,0) else (ao,ax q)) else (ao,ax s):=by
  unfold au;rw [←tI];try rfl
 refine ab (fun h=>?_) (fun h=>?_)
 ·have h:¬ax s=0:=by simpa using h
  rw [hr,if_neg h]
  exact ⟨trivial,rfl,rfl,rfl,rfl,rfl,rfl,trivial⟩
 ·have h:ax s=0:=by simpa using h
  rw [hr,if_pos h]
  have c:=cK h
  refine ⟨⟨c.1,Nat.le_refl _,c.2.2⟩,?_⟩
  cases hq:fillS (b6 (gx (b ::r))) s with
  | none=>exact ab (fun _=>⟨trivial,rfl,rfl,rfl,rfl,rfl,rfl,trivial⟩) (fun g=>absurd rfl g)
  | some q=>
   refine ab (fun g=>absurd g Bool.false_ne_true) (fun _=>ab (fun g=>?_) (fun g=>?_))
   ·have g:¬ax q=0:=by simpa using g
    dsimp only
    rw [if_neg g]
    exact ⟨trivial,rfl,rfl,rfl,rfl,rfl,rfl,trivial⟩
   ·have g:ax q=0:=by simpa using g
    dsimp only
    rw [if_pos g]
    exact ⟨trivial,rfl,rfl,trivial⟩
theorem Dw (k:Int)  :
  True/\k=(ofK k).kind/\[]=(ofK k).pkg/\[]=(ofK k).name/\(ofK k).names=[]/\(ofK k).parts=[]/\True:=by
 exact ⟨trivial,rfl,rfl,rfl,rfl,rfl,trivial⟩
theorem zo (e a:Int)  :
  True/\e=e/\a=a/\True:=by
 exact ⟨trivial,rfl,rfl,trivial⟩
theorem Bq (l:List Bndg) (o m:Str) (hl:Wf (.lst (.st .bind)) l) :
  inR IntKind.i64 ((↑(List.length l):Int) - (1:Int))/\(∃(x:Nat),(x<=List.length l/\aU l o m=aU (List.take x l) o m)/\(↑(List.length l):Int) - (1:Int)=(↑x:Int) - (1:Int)/\l=l/\o=o/\m=m/\(0:Int)=(0:Int)/\aE UInt8=aE UInt8/\aE UInt8=aE UInt8/\True)/\∀(x:Nat),x<=List.length l/\aU l o m=aU (List.take x l) o m→if decide ((0:Int)<=(↑x:Int) - (1:Int))=true then ((0:Int)<=(↑x:Int) - (1:Int)/\(↑x:Int) - (1:Int) < (↑(List.length l):Int))/\if decide ((List.getD l (Int.toNat ((↑x:Int) - (1:Int))) (dfl (Ty.st SN.bind))).pkg=o)=true then ((0:Int)<=(↑x:Int) - (1:Int)/\(↑x:Int) - (1:Int) < (↑(List.length l):Int))/\if decide ((List.getD l (Int.toNat ((↑x:Int) - (1:Int))) (dfl (Ty.st SN.bind))).name=m)=true then ((0:Int)<=(↑x:Int) - (1:Int)/\(↑x:Int) - (1:Int) < (↑(List.length l):Int))/\True/\aM (List.getD l (Int.toNat ((↑x:Int) - (1:Int))) (dfl (Ty.st SN.bind))).shape=Option.elim (aU l o m) ao aM/\true=Option.isSome (aU l o m)/\True else inR IntKind.i64 ((↑x:Int) - (1:Int) - (1:Int))/\∃(y:Nat),(y<=List.length l/\aU l o m=aU (List.take y l) o m)/\y < x/\(↑x:Int) - (1:Int) - (1:Int)=(↑y:Int) - (1:Int)/\l=l/\o=o/\m=m/\(0:Int)=(0:Int)/\aE UInt8=aE UInt8/\aE UInt8=aE UInt8/\True else inR IntKind.i64 ((↑x:Int) - (1:Int) - (1:Int))/\∃(y:Nat),(y<=List.length l/\aU l o m=aU (List.take y l) o m)/\y < x/\(↑x:Int) - (1:Int) - (1:Int)=(↑y:Int) - (1:Int)/\l=l/\o=o/\m=m/\(0:Int)=(0:Int)/\aE UInt8=aE UInt8/\aE UInt8=aE UInt8/\True else True/\(0:Int)=(Option.elim (aU l o m) ao aM).kind/\[]=(Option.elim (aU l o m) ao aM).pkg/\[]=(Option.elim (aU l o m) ao aM).name/\(Option.elim (aU l o m) ao aM).names=[]/\(Option.elim (aU l o m) ao aM).parts=[]/\false=Option.isSome (aU l o m)/\True:=by
 have ln:=hl.len
 refine ⟨bJ (by omega) (by omega),⟨l.length,⟨Nat.le_refl _,by rw [List.take_length]⟩,rfl,rfl,rfl,rfl,rfl,rfl,rfl,trivial⟩,?_⟩
 rintro x ⟨h1,h2⟩
 refine ab (fun h=>?_) (fun h=>?_)
 ·have h:=Xo h
  obtain ⟨k,rfl⟩:∃k,x=k+1:=⟨x - 1,by omega⟩
  have e1:(((k+1:Nat):Int) - 1)=(k:Int):=by omega
  rw [tK l o m (dfl (.st .bind)) (by omega)] at h2
  simp only [e1,Int.toNat_natCast,eq_self,true_and,and_true]
  have next:aU l o m=aU (l.take k) o m→inR IntKind.i64 ((k:Int) - 1)/\∃(y:Nat),(y<=List.length l/\aU l o m=aU (List.take y l) o m)/\y < k+1/\(k:Int) - 1=(y:Int) - 1:=
   fun g=>⟨bJ (by omega) (by omega),k,⟨by omega,g⟩,by omega,rfl⟩
  refine ⟨by omega,ab (fun c1=>?_) (fun c1=>?_)⟩
  ·have c1:=Xo c1
   refine ⟨by omega,ab (fun c2=>?_) (fun c2=>?_)⟩
   ·have c2:=Xo c2
    rw [if_pos ⟨c1,c2⟩] at h2
    rw [h2]
    exact ⟨by omega,rfl,rfl⟩
   ·rw [if_neg (fun g=>c2 (Xd g.2))] at h2
    exact next h2
  ·rw [if_neg (fun g=>c1 (Xd g.1))] at h2
   exact next h2
 ·have h:¬(0:Int)<=(x:Int) - 1:=fun e=>h (Xd e)
  obtain rfl:x=0:=by omega
  rw [h2]
  exact ⟨trivial,rfl,rfl,rfl,rfl,rfl,rfl,trivial⟩
theorem zp (n:Nat) (t:Trm) (e:Envt) (ht:Wf (.st .term) t) (he:Wf (.st .env) e) (hz:szT t<=n+1) (hf:allT ai t=true) (hv:e.values.length+4096 *szT t<=100000000) :
  (szT t<=n+(1:Nat)/\allT ai t=true/\List.length e.values+(4096:Nat) *szT t<=(100000000:Nat))/\if decide ((an (aa n) t e).2.err=(0:Int))=true then if (!decide (ax (an (aa n) t e).1=(0:Int)))=true then if (!decide (ax (an (aa n) t e).1=(0:Int)))=true then True/\(0:Int)=(aa (n+(1:Nat)) t e).1.kind/\[]=(aa (n+(1:Nat)) t e).1.pkg/\[]=(aa (n+(1:Nat)) t e).1.name/\(aa (n+(1:Nat)) t e).1.names=[]/\(aa (n+(1:Nat)) t e).1.parts=[]/\ax (an (aa n) t e).1=(aa (n+(1:Nat)) t e).2.err/\t.pos=(aa (n+(1:Nat)) t e).2.pos/\True else True/\aM (an (aa n) t e).1=(aa (n+(1:Nat)) t e).1/\(0:Int)=(aa (n+(1:Nat)) t e).2.err/\(0:Int)=(aa (n+(1:Nat)) t e).2.pos/\True else if (!decide ((an (aa n) t e).2.err=(0:Int)))=true then True/\(0:Int)=(aa (n+(1:Nat)) t e).1.kind/\[]=(aa (n+(1:Nat)) t e).1.pkg/\[]=(aa (n+(1:Nat)) t e).1.name/\(aa (n+(1:Nat)) t e).1.names=[]/\(aa (n+(1:Nat)) t e).1.parts=[]/\(an (aa n) t e).2.err=(aa (n+(1:Nat)) t e).2.err/\(an (aa n) t e).2.pos=(aa (n+(1:Nat)) t e).2.pos/\True else True/\aM (an (aa n) t e).1=(aa (n+(1:Nat)) t e).1/\(0:Int)=(aa (n+(1:Nat)) t e).2.err/\(0:Int)=(aa (n+(1:Nat)) t e).2.pos/\True else if (!decide ((an (aa n) t e).2.err=(0:Int)))=true then True/\(0:Int)=(aa (n+(1:Nat)) t e).1.kind/\[]=(aa (n+(1:Nat)) t e).1.pkg/\[]=(aa (n+(1:Nat)) t e).1.name/\(aa (n+(1:Nat)) t e).1.names=[]/\(aa (n+(1:Nat)) t e).1.parts=[]/\(an (aa n) t e).2.err=(aa (n+(1:Nat)) t e).2.err/\(an (aa n) t e).2.pos=(aa (n+(1:Nat)) t e).2.pos/\True else True/\aM (an (aa n) t e).1=(aa (n+(1:Nat)) t e).1/\(0:Int)=(aa (n+(1:Nat)) t e).2.err/\(0:Int)=(aa (n+(1:Nat)) t e).2.pos/\True:=by
 refine ⟨⟨hz,hf,hv⟩,?_⟩
 rw [show aa (n+1) t e=bS t (an (aa n) t e) from rfl]
 generalize an (aa n) t e=r
 unfold bS
 by_cases h1:r.2.err=0
 ·by_cases h2:ax r.1=0
  ·simp [h1,h2,ct]
  ·simp [h1,h2,ao]
 ·simp [h1,ao]
theorem Br (n:Nat) (t:Trm) (w:Shape) (e:Envt) (ht:Wf (.st .term) t) (hw:Wf (.st .shape) w) (he:Wf (.st .env) e) (hz:szT t<=n) (hf:allT ai t=true) (hv:e.values.length+4096 *szT t<=100000000) :
  (szT t<=n/\allT ai t=true/\List.length e.values+(4096:Nat) *szT t<=(100000000:Nat))/\if decide ((aa n t e).2.err=(0:Int))=true then if (!kT (aa n t e).1 w)=true then True/\(140:Int)=(az (aa n) t w e).err/\t.pos=(az (aa n) t w e).pos/\True else True/\(aa n t e).2.err=(az (aa n) t w e).err/\(aa n t e).2.pos=(az (aa n) t w e).pos/\True else True/\(aa n t e).2.err=(az (aa n) t w e).err/\(aa n t e).2.pos=(az (aa n) t w e).pos/\True:=by
 refine ⟨⟨hz,hf,hv⟩,?_⟩
 unfold az
 by_cases h1:(aa n t e).2.err=0
 ·cases h2:kT (aa n t e).1 w <;> simp [h1,h2]
 ·simp [h1]
theorem zq (n:Nat) (t:Trm) (e:Envt) (ht:Wf (.st .term) t) (he:Wf (.st .env) e) (hp:0 < t.parts.length) (hz:szT t<=n+1) (hf:allT ai t=true) (hv:e.values.length+4096 *szT t<=100000000) :
  ((0:Int)<=(0:Int)/\(0:Int) < (↑(List.length t.parts):Int))/\(szT (List.getD t.parts (Int.toNat (0:Int)) (dfl (Ty.st SN.term)))<=n/\allT ai (List.getD t.parts (Int.toNat (0:Int)) (dfl (Ty.st SN.term)))=true/\List.length e.values+(4096:Nat) *szT (List.getD t.parts (Int.toNat (0:Int)) (dfl (Ty.st SN.term)))<=(100000000:Nat))/\if (!decide ((aa n (List.getD t.parts (Int.toNat (0:Int)) (dfl (Ty.st SN.term))) e).2.err=(0:Int)))=true then True/\(aa n (List.getD t.parts (Int.toNat (0:Int)) (dfl (Ty.st SN.term))) e).1=(bR (aa n) t e).1/\(aa n (List.getD t.parts (Int.toNat (0:Int)) (dfl (Ty.st SN.term))) e).2.err=(bR (aa n) t e).2.err/\(aa n (List.getD t.parts (Int.toNat (0:Int)) (dfl (Ty.st SN.term))) e).2.pos=(bR (aa n) t e).2.pos/\True else if decide ((aa n (List.getD t.parts (Int.toNat (0:Int)) (dfl (Ty.st SN.term))) e).1.kind=(4:Int))=true then True/\(aa n (List.getD t.parts (Int.toNat (0:Int)) (dfl (Ty.st SN.term))) e).1=(bR (aa n) t e).1/\(aa n (List.getD t.parts (Int.toNat (0:Int)) (dfl (Ty.st SN.term))) e).2.err=(bR (aa n) t e).2.err/\(aa n (List.getD t.parts (Int.toNat (0:Int)) (dfl (Ty.st SN.term))) e).2.pos=(bR (aa n) t e).2.pos/\True else if (!decide ((aa n (List.getD t.parts (Int.toNat (0:Int)) (dfl (Ty.st SN.term))) e).1.kind=(6:Int)))=true then True/\(aa n (List.getD t.parts (Int.toNat (0:Int)) (dfl (Ty.st SN.term))) e).1=(bR (aa n) t e).1/\(140:Int)=(bR (aa n) t e).2.err/\t.pos=(bR (aa n) t e).2.pos/\True else if decide (bO (aa n (List.getD t.parts (Int.toNat (0:Int)) (dfl (Ty.st SN.term))) e).1.names t.name (0:Int) < (0:Int))=true then True/\(aa n (List.getD t.parts (Int.toNat (0:Int)) (dfl (Ty.st SN.term))) e).1=(bR (aa n) t e).1/\(140:Int)=(bR (aa n) t e).2.err/\t.pos=(bR (aa n) t e).2.pos/\True else ((0:Int)<=bO (aa n (List.getD t.parts (Int.toNat (0:Int)) (dfl (Ty.st SN.term))) e).1.names t.name (0:Int)/\bO (aa n (List.getD t.parts (Int.toNat (0:Int)) (dfl (Ty.st SN.term))) e).1.names t.name (0:Int) < (↑(List.length (aa n (List.getD t.parts (Int.toNat (0:Int)) (dfl (Ty.st SN.term))) e).1.parts):Int))/\True/\List.getD (aa n (List.getD t.parts (Int.toNat (0:Int)) (dfl (Ty.st SN.term))) e).1.parts (Int.toNat (bO (aa n (List.getD t.parts (Int.toNat (0:Int)) (dfl (Ty.st SN.term))) e).1.names t.name (0:Int))) (dfl (Ty.st SN.shape))=(bR (aa n) t e).1/\(0:Int)=(bR (aa n) t e).2.err/\(0:Int)=(bR (aa n) t e).2.pos/\True:=by
 have p0:=oQ (dfl (.st .term)) hz hf hp
 refine ⟨by omega,⟨p0.1,p0.2.1,by have:=p0.2.2;rw [show Int.toNat 0=0 from rfl];omega⟩,?_⟩
 rw [show t.parts.getD (Int.toNat 0) (dfl (.st .term))=t.parts.getD 0 aB from rfl]
 unfold bR
 have hn:=@yR n (t.parts.getD 0 aB) e
 revert hn
 generalize aa n (t.parts.getD 0 aB) e=r
 intro hn
 dsimp only
 by_cases h1:r.2.err=0
 ·by_cases h4:r.1.kind=4
  ·simp [h1,h4]
  ·by_cases h6:r.1.kind=6
   ·rcases qi t.name (dfl (.st .shape)) (hn h1) with ⟨g1,g2⟩ | ⟨g1,g2,g3⟩
    ·have g1':bO r.1.names t.name 0 < 0:=by omega
     simp [h1,h6,g1',g2]
    ·have g1':¬bO r.1.names t.name 0 < 0:=by omega
     simp [h1,h6,g1',g3,g1,g2,ct]
   ·simp [h1,h4,h6]
 ·simp [h1]
theorem zr (t:Trm) (e:Envt) (ht:Wf (.st .term) t) (he:Wf (.st .env) e) (hs:t.shapes.length<=1000000) :
  (∃(x:Nat × List Shape),(x.1<=List.length t.shapes/\List.length x.2=x.1/\((ae e.types t.pos (List.drop x.1 t.shapes)).2.err=(0:Int)→ae e.types t.pos t.shapes=(x.2++(ae e.types t.pos (List.drop x.1 t.shapes)).1,ct))/\(¬(ae e.types t.pos (List.drop x.1 t.shapes)).2.err=(0:Int)→ae e.types t.pos t.shapes=ae e.types t.pos (List.drop x.1 t.shapes)))/\(0:Int)=(↑x.1:Int)/\x.2=[]/\t=t/\e=e/\t.shapes=t.shapes/\(↑(List.length t.shapes):Int)=(↑(List.length t.shapes):Int)/\List.length x.2=(0:Nat)/\t=t/\e=e/\(0:Int)=(0:Int)/\(0:Int)=(0:Int)/\True)/\∀(x:Nat × List Shape),x.1<=List.length t.shapes/\List.length x.2=x.1/\((ae e.types t.pos (List.drop x.1 t.shapes)).2.err=(0:Int)→ae e.types t.pos t.shapes=(x.2++(ae e.types t.pos (List.drop x.1 t.shapes)).1,ct))/\(¬(ae e.types t.pos (List.drop x.1 t.shapes)).2.err=(0:Int)→ae e.types t.pos t.shapes=ae e.types t.pos (List.drop x.1 t.shapes))→if decide ((↑x.1:Int) < (↑(List.length t.shapes):Int))=true then ((0:Int)<=(↑x.1:Int)/\(↑x.1:Int) < (↑(List.length t.shapes):Int))/\if (!decide ((au (List.getD t.shapes (Int.toNat (↑x.1:Int)) (dfl (Ty.st SN.shape))) e.types).2=(0:Int)))=true then True/\(ae e.types t.pos t.shapes).1=[]/\(au (List.getD t.shapes (Int.toNat (↑x.1:Int)) (dfl (Ty.st SN.shape))) e.types).2=(ae e.types t.pos t.shapes).2.err/\t.pos=(ae e.types t.pos t.shapes).2.pos/\List.length (ae e.types t.pos t.shapes).1=(0:Nat)/\True else (List.length x.2=List.length x.2/\(List.length x.2+List.length [(au (List.getD t.shapes (Int.toNat (↑x.1:Int)) (dfl (Ty.st SN.shape))) e.types).1]) *(88:Nat)<=(140737488355328:Nat))/\inR IntKind.i64 ((↑x.1:Int)+(1:Int))/\∃(y:Nat × List Shape),(y.1<=List.length t.shapes/\List.length y.2=y.1/\((ae e.types t.pos (List.drop y.1 t.shapes)).2.err=(0:Int)→ae e.types t.pos t.shapes=(y.2++(ae e.types t.pos (List.drop y.1 t.shapes)).1,ct))/\(¬(ae e.types t.pos (List.drop y.1 t.shapes)).2.err=(0:Int)→ae e.types t.pos t.shapes=ae e.types t.pos (List.drop y.1 t.shapes)))/\List.length t.shapes - y.1 < List.length t.shapes - x.1/\(↑x.1:Int)+(1:Int)=(↑y.1:Int)/\x.2++[(au (List.getD t.shapes (Int.toNat (↑x.1:Int)) (dfl (Ty.st SN.shape))) e.types).1]=y.2/\t=t/\e=e/\t.shapes=t.shapes/\(↑(List.length t.shapes):Int)=(↑(List.length t.shapes):Int)/\List.length (x.2++[(au (List.getD t.shapes (Int.toNat (↑x.1:Int)) (dfl (Ty.st SN.shape))) e.types).1])=List.length y.2/\t=t/\e=e/\(0:Int)=(0:Int)/\(0:Int)=(0:Int)/\True else True/\x.2=(ae e.types t.pos t.shapes).1/\(0:Int)=(ae e.types t.pos t.shapes).2.err/\(0:Int)=(ae e.types t.pos t.shapes).2.pos/\List.length x.2=List.length (ae e.types t.pos t.shapes).1/\True:=by
 simp only [Int.toNat_natCast,eq_self,true_and,and_true]
 refine ⟨⟨(0,[]),⟨Nat.zero_le _,rfl,fun h=>qk h,fun _=>rfl⟩,rfl,rfl,rfl⟩,?_⟩
 rintro ⟨k,q⟩ ⟨h1,h2,h3,h4⟩
 dsimp only at h1 h2 h3 h4 ⊢
 refine ab (fun h=>?_) (fun h=>?_)
 ·replace h:=Xo h
  have hk:k < t.shapes.length:=by omega
  rw [aH t.shapes k (dfl (.st .shape)) hk,gz] at h3 h4
  refine ⟨by omega,ab (fun c=>?_) (fun c=>?_)⟩
  ·have c:¬(au (t.shapes.getD k (dfl (.st .shape))) e.types).2=0:=by simpa using c
   rw [if_neg c] at h4
   rw [h4 c]
   exact ⟨rfl,rfl,rfl,rfl⟩
  ·have c:(au (t.shapes.getD k (dfl (.st .shape))) e.types).2=0:=by simpa using c
   rw [if_pos c] at h3 h4
   refine ⟨by simp only [List.length_cons,List.length_nil];omega,bg hk (by omega),(k+1,q++[_]),⟨by omega,by simp [h2],fun g=>?_,fun g=>?_⟩,by dsimp only;omega,by dsimp only;omega,rfl,rfl⟩
   ·dsimp only at g
    rw [if_pos g] at h3
    rw [h3 rfl];simp
   ·dsimp only at g
    rw [if_neg g] at h4
    rw [h4 g,←vS g]
 ·replace h:¬((k:Int) < (t.shapes.length:Int)):=fun e=>h (Xd e)
  have e:k=t.shapes.length:=by omega
  subst e
  rw [List.drop_length] at h3
  rw [h3 rfl]
  simp [ae,ct]
theorem Bt (n:Nat) (t:Trm) (e:Envt) (ht:Wf (.st .term) t) (he:Wf (.st .env) e) (hp:0 < t.parts.length) (hz:szT t<=n+1) (hf:allT ai t=true) (hv:e.values.length+4096 *szT t<=100000000) :
  ((0:Int)<=(0:Int)/\(0:Int) < (↑(List.length t.parts):Int))/\(szT (List.getD t.parts (Int.toNat (0:Int)) (dfl (Ty.st SN.term)))<=n/\allT ai (List.getD t.parts (Int.toNat (0:Int)) (dfl (Ty.st SN.term)))=true/\List.length e.values+(4096:Nat) *szT (List.getD t.parts (Int.toNat (0:Int)) (dfl (Ty.st SN.term)))<=(100000000:Nat))/\if (!decide ((aa n (List.getD t.parts (Int.toNat (0:Int)) (dfl (Ty.st SN.term))) e).2.err=(0:Int)))=true then True/\(aa n (List.getD t.parts (Int.toNat (0:Int)) (dfl (Ty.st SN.term))) e).1=(bH (aa n) t e).1/\(aa n (List.getD t.parts (Int.toNat (0:Int)) (dfl (Ty.st SN.term))) e).2.err=(bH (aa n) t e).2.err/\(aa n (List.getD t.parts (Int.toNat (0:Int)) (dfl (Ty.st SN.term))) e).2.pos=(bH (aa n) t e).2.pos/\True else (if (!decide ((aa n (List.getD t.parts (Int.toNat (0:Int)) (dfl (Ty.st SN.term))) e).1.kind=(4:Int)))=true then if (!decide ((aa n (List.getD t.parts (Int.toNat (0:Int)) (dfl (Ty.st SN.term))) e).1.kind=(8:Int)))=true then true=(!decide ((aa n (List.getD t.parts (0:Nat) aB) e).1.kind=(4:Int)) && (!decide ((aa n (List.getD t.parts (0:Nat) aB) e).1.kind=(8:Int)) || !decide (List.length (aa n (List.getD t.parts (0:Nat) aB) e).1.parts=List.length t.parts)))/\t=t/\e=e/\false=false/\decide ((aa n (List.getD t.parts (Int.toNat (0:Int)) (dfl (Ty.st SN.term))) e).1.kind=(4:Int))=decide ((aa n (List.getD t.parts (Int.toNat (0:Int)) (dfl (Ty.st SN.term))) e).1.kind=(4:Int))/\t=t/\e=e/\(0:Int)=(0:Int)/\aE UInt8=aE UInt8/\aE UInt8=aE UInt8/\(0:Int)=(0:Int)/\(0:Int)=(0:Int)/\(aa n (List.getD t.parts (Int.toNat (0:Int)) (dfl (Ty.st SN.term))) e).1=(aa n (List.getD t.parts (Int.toNat (0:Int)) (dfl (Ty.st SN.term))) e).1/\(aa n (List.getD t.parts (Int.toNat (0:Int)) (dfl (Ty.st SN.term))) e).2.err=(aa n (List.getD t.parts (Int.toNat (0:Int)) (dfl (Ty.st SN.term))) e).2.err/\(aa n (List.getD t.parts (Int.toNat (0:Int)) (dfl (Ty.st SN.term))) e).2.pos=(aa n (List.getD t.parts (Int.toNat (0:Int)) (dfl (Ty.st SN.term))) e).2.pos/\True else (!decide ((↑(List.length (aa n (List.getD t.parts (Int.toNat (0:Int)) (dfl (Ty.st SN.term))) e).1.parts):Int)=(↑(List.length t.parts):Int)))=(!decide ((aa n (List.getD t.parts (0:Nat) aB) e).1.kind=(4:Int)) && (!decide ((aa n (List.getD t.parts (0:Nat) aB) e).1.kind=(8:Int)) || !decide (List.length (aa n (List.getD t.parts (0:Nat) aB) e).1.parts=List.length t.parts)))/\t=t/\e=e/\false=false/\decide ((aa n (List.getD t.parts (Int.toNat (0:Int)) (dfl (Ty.st SN.term))) e).1.kind=(4:Int))=decide ((aa n (List.getD t.parts (Int.toNat (0:Int)) (dfl (Ty.st SN.term))) e).1.kind=(4:Int))/\t=t/\e=e/\(0:Int)=(0:Int)/\aE UInt8=aE UInt8/\aE UInt8=aE UInt8/\(0:Int)=(0:Int)/\(0:Int)=(0:Int)/\(aa n (List.getD t.parts (Int.toNat (0:Int)) (dfl (Ty.st SN.term))) e).1=(aa n (List.getD t.parts (Int.toNat (0:Int)) (dfl (Ty.st SN.term))) e).1/\(aa n (List.getD t.parts (Int.toNat (0:Int)) (dfl (Ty.st SN.term))) e).2.err=(aa n (List.getD t.parts (Int.toNat (0:Int)) (dfl (Ty.st SN.term))) e).2.err/\(aa n (List.getD t.parts (Int.toNat (0:Int)) (dfl (Ty.st SN.term))) e).2.pos=(aa n (List.getD t.parts (Int.toNat (0:Int)) (dfl (Ty.st SN.term))) e).2.pos/\True else false=(!decide ((aa n (List.getD t.parts (0:Nat) aB) e).1.kind=(4:Int)) && (!decide ((aa n (List.getD t.parts (0:Nat) aB) e).1.kind=(8:Int)) || !decide (List.length (aa n (List.getD t.parts (0:Nat) aB) e).1.parts=List.length t.parts)))/\t=t/\e=e/\false=false
  /\decide ((aa n (List.getD t.parts (Int.toNat (0:Int)) (dfl (Ty.st SN.term))) e).1.kind=(4:Int))=decide ((aa n (List.getD t.parts (Int.toNat (0:Int)) (dfl (Ty.st SN.term))) e).1.kind=(4:Int))/\t=t/\e=e/\(0:Int)=(0:Int)/\aE UInt8=aE UInt8/\aE UInt8=aE UInt8/\(0:Int)=(0:Int)/\(0:Int)=(0:Int)/\(aa n (List.getD t.parts (Int.toNat (0:Int)) (dfl (Ty.st SN.term))) e).1=(aa n (List.getD t.parts (Int.toNat (0:Int)) (dfl (Ty.st SN.term))) e).1/\(aa n (List.getD t.parts (Int.toNat (0:Int)) (dfl (Ty.st SN.term))) e).2.err=(aa n (List.getD t.parts (Int.toNat (0:Int)) (dfl (Ty.st SN.term))) e).2.err/\(aa n (List.getD t.parts (Int.toNat (0:Int)) (dfl (Ty.st SN.term))) e).2.pos=(aa n (List.getD t.parts (Int.toNat (0:Int)) (dfl (Ty.st SN.term))) e).2.pos/\True)/\if (!decide ((aa n (List.getD t.parts (0:Nat) aB) e).1.kind=(4:Int)) && (!decide ((aa n (List.getD t.parts (0:Nat) aB) e).1.kind=(8:Int)) || !decide (List.length (aa n (List.getD t.parts (0:Nat) aB) e).1.parts=List.length t.parts)))=true then True/\(aa n (List.getD t.parts (Int.toNat (0:Int)) (dfl (Ty.st SN.term))) e).1=(bH (aa n) t e).1/\(140:Int)=(bH (aa n) t e).2.err/\t.pos=(bH (aa n) t e).2.pos/\True else ((0:Int)<=(1:Int)/\(1:Int)<=(↑(List.length t.parts):Int)/\(↑(List.length t.parts):Int)<=(↑(List.length t.parts):Int))/\(∃(x:Nat),(x+(1:Nat)<=List.length t.parts/\((aa n (List.getD t.parts (0:Nat) aB) e).1.kind=(4:Int)→cv (aa n) e (ofK (4:Int)) (List.drop (1:Nat) t.parts)=cv (aa n) e (ofK (4:Int)) (List.drop (x+(1:Nat)) t.parts))/\(¬(aa n (List.getD t.parts (0:Nat) aB) e).1.kind=(4:Int)→dE (aa n) e (List.drop (1:Nat) t.parts) (aa n (List.getD t.parts (0:Nat) aB) e).1.parts=dE (aa n) e (List.drop (x+(1:Nat)) t.parts) (List.drop x (aa n (List.getD t.parts (0:Nat) aB) e).1.parts)))/\(0:Int)=(↑x:Int)/\false=false/\t=t/\e=e/\false=false/\decide ((aa n (List.getD t.parts (Int.toNat (0:Int)) (dfl (Ty.st SN.term))) e).1.kind=(4:Int))=decide ((aa n (List.getD t.parts (Int.toNat (0:Int)) (dfl (Ty.st SN.term))) e).1.kind=(4:Int))/\List.drop (Int.toNat (1:Int)) (List.take (Int.toNat (↑(List.length t.parts):Int)) t.parts)=List.drop (Int.toNat (1:Int)) (List.take (Int.toNat (↑(List.length t.parts):Int)) t.parts)/\(↑(List.length (List.drop (Int.toNat (1:Int)) (List.take (Int.toNat (↑(List.length t.parts):Int)) t.parts))):Int)=(↑(List.length (List.drop (Int.toNat (1:Int)) (List.take (Int.toNat (↑(List.length t.parts):Int)) t.parts))):Int)/\t=t/\e=e/\(0:Int)=(0:Int)/\aE UInt8=aE UInt8/\aE UInt8=aE UInt8/\(0:Int)=(0:Int)/\(0:Int)=(0:Int)/\(aa n (List.getD t.parts (Int.toNat (0:Int)) (dfl (Ty.st SN.term))) e).1=(aa n (List.getD t.parts (Int.toNat (0:Int)) (dfl (Ty.st SN.term))) e).1/\(aa n (List.getD t.parts (Int.toNat (0:Int)) (dfl (Ty.st SN.term))) e).2.err=(aa n (List.getD t.parts (Int.toNat (0:Int)) (dfl (Ty.st SN.term))) e).2.err/\(aa n (List.getD t.parts (Int.toNat (0:Int)) (dfl (Ty.st SN.term))) e).2.pos=(aa n (List.getD t.parts (Int.toNat (0:Int)) (dfl (Ty.st SN.term))) e).2.pos/\True)/\∀(x:Nat),x+(1:Nat)<=List.length t.parts/\((aa n (List.getD t.parts (0:Nat) aB) e).1.kind=(4:Int)→cv (aa n) e (ofK (4:Int)) (List.drop (1:Nat) t.parts)=cv (aa n) e (ofK (4:Int)) (List.drop (x+(1:Nat)) t.parts))
  /\(¬(aa n (List.getD t.parts (0:Nat) aB) e).1.kind=(4:Int)→dE (aa n) e (List.drop (1:Nat) t.parts) (aa n (List.getD t.parts (0:Nat) aB) e).1.parts=dE (aa n) e (List.drop (x+(1:Nat)) t.parts) (List.drop x (aa n (List.getD t.parts (0:Nat) aB) e).1.parts))→if decide ((↑x:Int) < (↑(List.length (List.drop (Int.toNat (1:Int)) (List.take (Int.toNat (↑(List.length t.parts):Int)) t.parts))):Int))=true then ((0:Int)<=(↑x:Int)/\(↑x:Int) < (↑(List.length (List.drop (Int.toNat (1:Int)) (List.take (Int.toNat (↑(List.length t.parts):Int)) t.parts))):Int))/\if (!decide ((aa n (List.getD t.parts (Int.toNat (0:Int)) (dfl (Ty.st SN.term))) e).1.kind=(4:Int)))=true then ((0:Int)<=(↑x:Int)/\(↑x:Int) < (↑(List.length (aa n (List.getD t.parts (Int.toNat (0:Int)) (dfl (Ty.st SN.term))) e).1.parts):Int))/\(szT (List.getD (List.drop (Int.toNat (1:Int)) (List.take (Int.toNat (↑(List.length t.parts):Int)) t.parts)) (Int.toNat (↑x:Int)) (dfl (Ty.st SN.term)))<=n/\allT ai (List.getD (List.drop (Int.toNat (1:Int)) (List.take (Int.toNat (↑(List.length t.parts):Int)) t.parts)) (Int.toNat (↑x:Int)) (dfl (Ty.st SN.term)))=true/\List.length e.values+(4096:Nat) *szT (List.getD (List.drop (Int.toNat (1:Int)) (List.take (Int.toNat (↑(List.length t.parts):Int)) t.parts)) (Int.toNat (↑x:Int)) (dfl (Ty.st SN.term)))<=(100000000:Nat))/\if (!decide ((az (aa n) (List.getD (List.drop (Int.toNat (1:Int)) (List.take (Int.toNat (↑(List.length t.parts):Int)) t.parts)) (Int.toNat (↑x:Int)) (dfl (Ty.st SN.term))) (List.getD (aa n (List.getD t.parts (Int.toNat (0:Int)) (dfl (Ty.st SN.term))) e).1.parts (Int.toNat (↑x:Int)) (dfl (Ty.st SN.shape))) e).err=(0:Int)))=true then True/\(aa n (List.getD t.parts (Int.toNat (0:Int)) (dfl (Ty.st SN.term))) e).1=(bH (aa n) t e).1/\(az (aa n) (List.getD (List.drop (Int.toNat (1:Int)) (List.take (Int.toNat (↑(List.length t.parts):Int)) t.parts)) (Int.toNat (↑x:Int)) (dfl (Ty.st SN.term))) (List.getD (aa n (List.getD t.parts (Int.toNat (0:Int)) (dfl (Ty.st SN.term))) e).1.parts (Int.toNat (↑x:Int)) (dfl (Ty.st SN.shape))) e).err=(bH (aa n) t e).2.err/\(az (aa n) (List.getD (List.drop (Int.toNat (1:Int)) (List.take (Int.toNat (↑(List.length t.parts):Int)) t.parts)) (Int.toNat (↑x:Int)) (dfl (Ty.st SN.term))) (List.getD (aa n (List.getD t.parts (Int.toNat (0:Int)) (dfl (Ty.st SN.term))) e).1.parts (Int.toNat (↑x:Int)) (dfl (Ty.st SN.shape))) e).pos=(bH (aa n) t e).2.pos/\True else inR IntKind.i64 ((↑x:Int)+(1:Int))/\∃(y:Nat),(y+(1:Nat)<=List.length t.parts/\((aa n (List.getD t.parts (0:Nat) aB) e).1.kind=(4:Int)→cv (aa n) e (ofK (4:Int)) (List.drop (1:Nat) t.parts)=cv (aa n) e (ofK (4:Int)) (List.drop (y+(1:Nat)) t.parts))/\(¬(aa n (List.getD t.parts (0:Nat) aB) e).1.kind=(4:Int)→dE (aa n) e (List.drop (1:Nat) t.parts) (aa n (List.getD t.parts (0:Nat) aB) e).1.parts=dE (aa n) e (List.drop (y+(1:Nat)) t.parts) (List.drop y (aa n (List.getD t.parts (0:Nat) aB) e).1.parts)))/\List.length t.parts - y < List.length t.parts - x/\(↑x:Int)+(1:Int)=(↑y:Int)/\false=false/\t=t/\e=e/\false=false/\decide ((aa n (List.getD t.parts (Int.toNat (0:Int)) (dfl (Ty.st SN.term))) e).1.kind=(4:Int))=decide ((aa n (List.getD t.parts (Int.toNat (0:Int)) (dfl (Ty.st SN.term))) e).1.kind=(4:Int))/\List.drop (Int.toNat (1:Int)) (List.take (Int.toNat (↑(List.length t.parts):Int)) t.parts)=List.drop (Int.toNat (1:Int)) (List.take (Int.toNat (↑(List.length t.parts):Int)) t.parts)
  /\(↑(List.length (List.drop (Int.toNat (1:Int)) (List.take (Int.toNat (↑(List.length t.parts):Int)) t.parts))):Int)=(↑(List.length (List.drop (Int.toNat (1:Int)) (List.take (Int.toNat (↑(List.length t.parts):Int)) t.parts))):Int)/\t=t/\e=e/\(0:Int)=(0:Int)/\aE UInt8=aE UInt8/\aE UInt8=aE UInt8/\(0:Int)=(0:Int)/\(0:Int)=(0:Int)/\(aa n (List.getD t.parts (Int.toNat (0:Int)) (dfl (Ty.st SN.term))) e).1=(aa n (List.getD t.parts (Int.toNat (0:Int)) (dfl (Ty.st SN.term))) e).1/\(aa n (List.getD t.parts (Int.toNat (0:Int)) (dfl (Ty.st SN.term))) e).2.err=(aa n (List.getD t.parts (Int.toNat (0:Int)) (dfl (Ty.st SN.term))) e).2.err/\(aa n (List.getD t.parts (Int.toNat (0:Int)) (dfl (Ty.st SN.term))) e).2.pos=(aa n (List.getD t.parts (Int.toNat (0:Int)) (dfl (Ty.st SN.term))) e).2.pos/\True else (szT (List.getD (List.drop (Int.toNat (1:Int)) (List.take (Int.toNat (↑(List.length t.parts):Int)) t.parts)) (Int.toNat (↑x:Int)) (dfl (Ty.st SN.term)))<=n/\allT ai (List.getD (List.drop (Int.toNat (1:Int)) (List.take (Int.toNat (↑(List.length t.parts):Int)) t.parts)) (Int.toNat (↑x:Int)) (dfl (Ty.st SN.term)))=true/\List.length e.values+(4096:Nat) *szT (List.getD (List.drop (Int.toNat (1:Int)) (List.take (Int.toNat (↑(List.length t.parts):Int)) t.parts)) (Int.toNat (↑x:Int)) (dfl (Ty.st SN.term)))<=(100000000:Nat))/\if (!decide ((az (aa n) (List.getD (List.drop (Int.toNat (1:Int)) (List.take (Int.toNat (↑(List.length t.parts):Int)) t.parts)) (Int.toNat (↑x:Int)) (dfl (Ty.st SN.term))) (ofK (4:Int)) e).err=(0:Int)))=true then True/\(aa n (List.getD t.parts (Int.toNat (0:Int)) (dfl (Ty.st SN.term))) e).1=(bH (aa n) t e).1/\(az (aa n) (List.getD (List.drop (Int.toNat (1:Int)) (List.take (Int.toNat (↑(List.length t.parts):Int)) t.parts)) (Int.toNat (↑x:Int)) (dfl (Ty.st SN.term))) (ofK (4:Int)) e).err=(bH (aa n) t e).2.err/\(az (aa n) (List.getD (List.drop (Int.toNat (1:Int)) (List.take (Int.toNat (↑(List.length t.parts):Int)) t.parts)) (Int.toNat (↑x:Int)) (dfl (Ty.st SN.term))) (ofK (4:Int)) e).pos=(bH (aa n) t e).2.pos/\True else inR IntKind.i64 ((↑x:Int)+(1:Int))/\∃(y:Nat),(y+(1:Nat)<=List.length t.parts/\((aa n (List.getD t.parts (0:Nat) aB) e).1.kind=(4:Int)→cv (aa n) e (ofK (4:Int)) (List.drop (1:Nat) t.parts)=cv (aa n) e (ofK (4:Int)) (List.drop (y+(1:Nat)) t.parts))/\(¬(aa n (List.getD t.parts (0:Nat) aB) e).1.kind=(4:Int)→dE (aa n) e (List.drop (1:Nat) t.parts) (aa n (List.getD t.parts (0:Nat) aB) e).1.parts=dE (aa n) e (List.drop (y+(1:Nat)) t.parts) (List.drop y (aa n (List.getD t.parts (0:Nat) aB) e).1.parts)))/\List.length t.parts - y < List.length t.parts - x/\(↑x:Int)+(1:Int)=(↑y:Int)/\false=false/\t=t/\e=e/\false=false/\decide ((aa n (List.getD t.parts (Int.toNat (0:Int)) (dfl (Ty.st SN.term))) e).1.kind=(4:Int))=decide ((aa n (List.getD t.parts (Int.toNat (0:Int)) (dfl (Ty.st SN.term))) e).1.kind=(4:Int))/\List.drop (Int.toNat (1:Int)) (List.take (Int.toNat (↑(List.length t.parts):Int)) t.parts)=List.drop (Int.toNat (1:Int)) (List.take (Int.toNat (↑(List.length t.parts):Int)) t.parts)/\(↑(List.length (List.drop (Int.toNat (1:Int)) (List.take (Int.toNat (↑(List.length t.parts):Int)) t.parts))):Int)=(↑(List.length (List.drop (Int.toNat (1:Int)) (List.take (Int.toNat (↑(List.length t.parts):Int)) t.parts))):Int)/\t=t/\e=e/\(0:Int)=(0:Int)/\aE UInt8=aE UInt8/\aE UInt8=aE UInt8/\(0:Int)=(0:Int)/\(0:Int)=(0:Int)
  /\(aa n (List.getD t.parts (Int.toNat (0:Int)) (dfl (Ty.st SN.term))) e).1=(aa n (List.getD t.parts (Int.toNat (0:Int)) (dfl (Ty.st SN.term))) e).1/\(aa n (List.getD t.parts (Int.toNat (0:Int)) (dfl (Ty.st SN.term))) e).2.err=(aa n (List.getD t.parts (Int.toNat (0:Int)) (dfl (Ty.st SN.term))) e).2.err/\(aa n (List.getD t.parts (Int.toNat (0:Int)) (dfl (Ty.st SN.term))) e).2.pos=(aa n (List.getD t.parts (Int.toNat (0:Int)) (dfl (Ty.st SN.term))) e).2.pos/\True else if decide ((aa n (List.getD t.parts (Int.toNat (0:Int)) (dfl (Ty.st SN.term))) e).1.kind=(4:Int))=true then True/\(aa n (List.getD t.parts (Int.toNat (0:Int)) (dfl (Ty.st SN.term))) e).1=(bH (aa n) t e).1/\(0:Int)=(bH (aa n) t e).2.err/\(0:Int)=(bH (aa n) t e).2.pos/\True else inR IntKind.i64 ((↑(List.length (aa n (List.getD t.parts (Int.toNat (0:Int)) (dfl (Ty.st SN.term))) e).1.parts):Int) - (1:Int))/\((0:Int)<=(↑(List.length (aa n (List.getD t.parts (Int.toNat (0:Int)) (dfl (Ty.st SN.term))) e).1.parts):Int) - (1:Int)/\(↑(List.length (aa n (List.getD t.parts (Int.toNat (0:Int)) (dfl (Ty.st SN.term))) e).1.parts):Int) - (1:Int) < (↑(List.length (aa n (List.getD t.parts (Int.toNat (0:Int)) (dfl (Ty.st SN.term))) e).1.parts):Int))/\True/\List.getD (aa n (List.getD t.parts (Int.toNat (0:Int)) (dfl (Ty.st SN.term))) e).1.parts (Int.toNat ((↑(List.length (aa n (List.getD t.parts (Int.toNat (0:Int)) (dfl (Ty.st SN.term))) e).1.parts):Int) - (1:Int))) (dfl (Ty.st SN.shape))=(bH (aa n) t e).1/\(0:Int)=(bH (aa n) t e).2.err/\(0:Int)=(bH (aa n) t e).2.pos/\True:=by
 have p0:=rM hz hf hv (dfl (.st .term)) hp (Nat.le_add_right _ _)
 have ln:=ht.term_parts.len
 have hds:List.drop (Int.toNat 1) (List.take t.parts.length t.parts)=t.parts.drop 1:=by rw [List.take_length];rfl
 have hdg:∀k:Nat,(t.parts.drop 1).getD k (dfl (.st .term))=t.parts.getD (k+1) (dfl (.st .term)):=fun k=>by
  rw [List.getD_eq_getElem?_getD,List.getD_eq_getElem?_getD,List.getElem?_drop,Nat.add_comm]
 rw [show t.parts.getD (Int.toNat 0) (dfl (.st .term))=t.parts.getD 0 aB from rfl]
 simp only [Int.toNat_natCast,eq_self,true_and,and_true]
 simp only [hds,hdg,List.length_drop]
 have hC0:¬(aa n (t.parts.getD 0 aB) e).2.err=0→bH (aa n) t e=aa n (t.parts.getD 0 aB) e:=fun h=>by simp only [bH,if_neg h]
 have hC4:(aa n (t.parts.getD 0 aB) e).2.err=0→(aa n (t.parts.getD 0 aB) e).1.kind=4→bH (aa n) t e=if (cv (aa n) e (ofK 4) (t.parts.drop 1)).err=0 then ((aa n (t.parts.getD 0 aB) e).1,ct) else ((aa n (t.parts.getD 0 aB) e).1,cv (aa n) e (ofK 4) (t.parts.drop 1)):=fun h k=>by simp only [bH,if_pos h,if_pos k]
 have hC8:(aa n (t.parts.getD 0 aB) e).2.err=0→¬(aa n (t.parts.getD 0 aB) e).1.kind=4→(aa n (t.parts.getD 0 aB) e).1.kind=8/\(aa n (t.parts.getD 0 aB) e).1.parts.length=t.parts.length→bH (aa n) t e=if (dE (aa n) e (t.parts.drop 1) (aa n (t.parts.getD 0 aB) e).1.parts).err=0 then ((aa n (t.parts.getD 0 aB) e).1.parts.getD ((aa n (t.parts.getD 0 aB) e).1.parts.length - 1) ao,ct) else ((aa n (t.parts.getD 0 aB) e).1,dE (aa n) e (t.parts.drop 1) (aa n (t.parts.getD 0 aB) e).1.parts):=fun h k g=>by simp only [bH,if_pos h,if_neg k,if_pos g]
 have hC9:(aa n (t.parts.getD 0 aB) e).2.err=0→¬(aa n (t.parts.getD 0 aB) e).1.kind=4→¬((aa n (t.parts.getD 0 aB) e).1.kind=8/\(aa n (t.parts.getD 0 aB) e).1.parts.length=t.parts.length)→bH (aa n) t e=((aa n (t.parts.getD 0 aB) e).1,⟨140,t.pos⟩):=fun h k g=>by simp only [bH,if_pos h,if_neg k,if_neg g]
 revert hC0 hC4 hC8 hC9
 generalize bH (aa n) t e=R
 generalize aa n (t.parts.getD 0 aB) e=r
 intro hC0 hC4 hC8 hC9
 have dn:decide ((r.1.parts.length:Int)=(t.parts.length:Int))=decide (r.1.parts.length=t.parts.length):=decide_eq_decide.2 (by omega)
 refine ⟨by omega,p0,ab (fun h=>?_) (fun h=>?_)⟩
 ·rw [hC0 (by simpa using h)];exact ⟨rfl,rfl,rfl⟩
 have h:r.2.err=0:=by simpa using h
 rw [dn]
 refine ⟨?_,ab (fun g=>?_) (fun g=>?_)⟩
 ·cases decide (r.1.kind=4) <;> cases decide (r.1.kind=8) <;> cases decide (r.1.parts.length=t.parts.length) <;> rfl
 ·have g':¬r.1.kind=4/\¬(r.1.kind=8/\r.1.parts.length=t.parts.length):=by
   simp only [Bool.and_eq_true,Bool.or_eq_true,Bool.not_eq_true',decide_eq_false_iff_not] at g
   exact ⟨g.1,fun q=>g.2.elim (fun x=>x q.1) (fun x=>x q.2)⟩
  rw [hC9 h g'.1 g'.2];exact ⟨rfl,rfl,rfl⟩
 have g':¬r.1.kind=4→r.1.kind=8/\r.1.parts.length=t.parts.length:=fun q=>by
  simp only [Bool.and_eq_true,Bool.or_eq_true,Bool.not_eq_true',decide_eq_false_iff_not] at g
  exact ⟨Decidable.byContradiction fun x=>g ⟨q,.inl x⟩,Decidable.byContradiction fun x=>g ⟨q,.inr x⟩⟩
 refine ⟨by omega,⟨0,⟨by omega,fun _=>rfl,fun _=>by rw [List.drop_zero]⟩,rfl⟩,?_⟩
 rintro k ⟨h1,h2,h3⟩
 refine ab (fun c=>?_) (fun c=>?_)
 ·have c:=Xo c
  have hk:k+1 < t.parts.length:=by omega
  have ob:=rM hz hf hv (dfl (.st .term)) hk (Nat.le_add_right _ _)
  rw [aH t.parts (k+1) (dfl (.st .term)) hk] at h2 h3
  refine ⟨by omega,ab (fun k4=>?_) (fun k4=>?_)⟩
  ·have k4:¬r.1.kind=4:=by simpa using k4
   have k8:=g' k4
   have h3:=h3 k4
   rw [aH r.1.parts k (dfl (.st .shape)) (by omega)] at h3
   simp only [dE] at h3
   refine ⟨by omega,ob,ab (fun f=>?_) (fun f=>?_)⟩
   ·have f:¬(az (aa n) (t.parts.getD (k+1) (dfl (.st .term))) (r.1.parts.getD k (dfl (.st .shape))) e).err=0:=by simpa using f
    rw [if_neg f] at h3
    rw [hC8 h k4 k8,h3,if_neg f]
    exact ⟨rfl,rfl,rfl⟩
   ·have f:(az (aa n) (t.parts.getD (k+1) (dfl (.st .term))) (r.1.parts.getD k (dfl (.st .shape))) e).err=0:=by simpa using f
    rw [if_pos f] at h3
    exact ⟨bg (by omega) ln,k+1,⟨by omega,fun q=>absurd q k4,fun _=>h3⟩,by omega,by omega⟩
  ·have k4:r.1.kind=4:=by simpa using k4
   have h2:=h2 k4
   simp only [cv] at h2
   refine ⟨ob,ab (fun f=>?_) (fun f=>?_)⟩
   ·have f:¬(az (aa n) (t.parts.getD (k+1) (dfl (.st .term))) (ofK 4) e).err=0:=by simpa using f
    rw [if_neg f] at h2
    rw [hC4 h k4,h2,if_neg f]
    exact ⟨rfl,rfl,rfl⟩
   ·have f:(az (aa n) (t.parts.getD (k+1) (dfl (.st .term))) (ofK 4) e).err=0:=by simpa using f
    rw [if_pos f] at h2
    exact ⟨bg (by omega) ln,k+1,⟨by omega,fun _=>h2,fun q=>absurd k4 q⟩,by omega,by omega⟩
 ·have c:¬((k:Int) < ((t.parts.length - 1:Nat):Int)):=fun q=>c (Xd q)
  have hk:k+1=t.parts.length:=by omega
  rw [hk,List.drop_length] at h2 h3
  refine ab (fun k4=>?_) (fun k4=>?_)
  ·have k4:r.1.kind=4:=Xo k4
   rw [hC4 h k4,h2 k4]
   exact ⟨rfl,rfl,rfl⟩
  ·have k4:¬r.1.kind=4:=fun q=>k4 (Xd q)
   have k8:=g' k4
   have h3:=h3 k4
   simp only [dE] at h3
   have ei:((r.1.parts.length:Int) - 1).toNat=r.1.parts.length - 1:=by omega
   rw [hC8 h k4 k8,h3,ei]
   exact ⟨bJ (by omega) (by omega),by omega,rfl,rfl,rfl⟩
theorem CJ (n:Nat) (t:Trm) (e:Envt) (ht:Wf (.st .term) t) (he:Wf (.st .env) e) (hp:0 < t.parts.length) (hz:szT t<=n+1) (hf:allT ai t=true) (hv:e.values.length+4096 *szT t<=100000000) :
  inR IntKind.i64 ((↑(List.length e.own):Int) - (1:Int))/\(∃(x:Nat × Option Shape),(x.1<=List.length e.own/\(x.2=none→cQ e.own t.name=cQ (List.take x.1 e.own) t.name)/\∀(s:Shape),x.2=some s→cQ e.own t.name=some s)/\(↑(List.length e.own):Int) - (1:Int)=(↑x.1:Int) - (1:Int)/\false=Option.isSome x.2/\t=t/\e=e/\(0:Int)=(Option.elim x.2 ao aM).kind/\[]=(Option.elim x.2 ao aM).pkg/\[]=(Option.elim x.2 ao aM).name/\(Option.elim x.2 ao aM).names=[]/\(Option.elim x.2 ao aM).parts=[]/\t=t/\e=e/\(0:Int)=(0:Int)/\aE UInt8=aE UInt8/\aE UInt8=aE UInt8/\(0:Int)=(0:Int)/\(0:Int)=(0:Int)/\True)/\∀(x:Nat × Option Shape),(x.1<=List.length e.own/\(x.2=none→cQ e.own t.name=cQ (List.take x.1 e.own) t.name)/\∀(s:Shape),x.2=some s→cQ e.own t.name=some s)→if decide ((0:Int)<=(↑x.1:Int) - (1:Int))=true then if (!Option.isSome x.2)=true then ((0:Int)<=(↑x.1:Int) - (1:Int)/\(↑x.1:Int) - (1:Int) < (↑(List.length e.own):Int))/\if decide ((List.getD e.own (Int.toNat ((↑x.1:Int) - (1:Int))) (dfl (Ty.st SN.bind))).name=t.name)=true then ((0:Int)<=(↑x.1:Int) - (1:Int)/\(↑x.1:Int) - (1:Int) < (↑(List.length e.own):Int))/\inR IntKind.i64 ((↑x.1:Int) - (1:Int) - (1:Int))/\∃(y:Nat × Option Shape),(y.1<=List.length e.own/\(y.2=none→cQ e.own t.name=cQ (List.take y.1 e.own) t.name)/\∀(s:Shape),y.2=some s→cQ e.own t.name=some s)/\y.1 < x.1/\(↑x.1:Int) - (1:Int) - (1:Int)=(↑y.1:Int) - (1:Int)/\true=Option.isSome y.2/\t=t/\e=e/\aM (List.getD e.own (Int.toNat ((↑x.1:Int) - (1:Int))) (dfl (Ty.st SN.bind))).shape=Option.elim y.2 ao aM/\t=t/\e=e/\(0:Int)=(0:Int)/\aE UInt8=aE UInt8/\aE UInt8=aE UInt8/\(0:Int)=(0:Int)/\(0:Int)=(0:Int)/\True else inR IntKind.i64 ((↑x.1:Int) - (1:Int) - (1:Int))/\∃(y:Nat × Option Shape),(y.1<=List.length e.own/\(y.2=none→cQ e.own t.name=cQ (List.take y.1 e.own) t.name)/\∀(s:Shape),y.2=some s→cQ e.own t.name=some s)/\y.1 < x.1/\(↑x.1:Int) - (1:Int) - (1:Int)=(↑y.1:Int) - (1:Int)/\Option.isSome x.2=Option.isSome y.2/\t=t/\e=e/\Option.elim x.2 ao aM=Option.elim y.2 ao aM/\t=t/\e=e/\(0:Int)=(0:Int)/\aE UInt8=aE UInt8/\aE UInt8=aE UInt8/\(0:Int)=(0:Int)/\(0:Int)=(0:Int)/\True else if (!Option.isSome x.2)=true then True/\Option.elim x.2 ao aM=(cE (aa n) t e).1/\(110:Int)=(cE (aa n) t e).2.err/\t.pos=(cE (aa n) t e).2.pos/\True else if decide (t.kind=(17:Int))=true then ((0:Int)<=(0:Int)/\(0:Int) < (↑(List.length t.parts):Int))/\(szT (List.getD t.parts (Int.toNat (0:Int)) (dfl (Ty.st SN.term)))<=n/\allT ai (List.getD t.parts (Int.toNat (0:Int)) (dfl (Ty.st SN.term)))=true/\List.length e.values+(4096:Nat) *szT (List.getD t.parts (Int.toNat (0:Int)) (dfl (Ty.st SN.term)))<=(100000000:Nat))/\True/\Option.elim x.2 ao aM=(cE (aa n) t e).1/\(az (aa n) (List.getD t.parts (Int.toNat (0:Int)) (dfl (Ty.st SN.term))) {kind:=(10:Int),pkg:=e.self,name:=t.name,names:=[],parts:=[]:Shape} e).err=(cE (aa n) t e).2.err/\(az (aa n) (List.getD t.parts (Int.toNat (0:Int)) (dfl (Ty.st SN.term))) {kind:=(10:Int),pkg:=e.self,name:=t.name,names:=[],parts:=[]:Shape} e).pos=(cE (aa n) t e).2.pos/\True else ((0:Int)<=(0:Int)/\(0:Int) < (↑(List.length t.parts):Int))/\(szT (List.getD t.parts (Int.toNat (0:Int)) (dfl (Ty.st SN.term)))<=n/\allT ai (List.getD t.parts (Int.toNat (0:Int)) (dfl (Ty.st SN.term)))=true
  /\List.length e.values+(4096:Nat) *szT (List.getD t.parts (Int.toNat (0:Int)) (dfl (Ty.st SN.term)))<=(100000000:Nat))/\True/\(10:Int)=(cE (aa n) t e).1.kind/\e.self=(cE (aa n) t e).1.pkg/\t.name=(cE (aa n) t e).1.name/\(cE (aa n) t e).1.names=[]/\(cE (aa n) t e).1.parts=[]/\(az (aa n) (List.getD t.parts (Int.toNat (0:Int)) (dfl (Ty.st SN.term))) (Option.elim x.2 ao aM) e).err=(cE (aa n) t e).2.err/\(az (aa n) (List.getD t.parts (Int.toNat (0:Int)) (dfl (Ty.st SN.term))) (Option.elim x.2 ao aM) e).pos=(cE (aa n) t e).2.pos/\True else if (!Option.isSome x.2)=true then True/\Option.elim x.2 ao aM=(cE (aa n) t e).1/\(110:Int)=(cE (aa n) t e).2.err/\t.pos=(cE (aa n) t e).2.pos/\True else if decide (t.kind=(17:Int))=true then ((0:Int)<=(0:Int)/\(0:Int) < (↑(List.length t.parts):Int))/\(szT (List.getD t.parts (Int.toNat (0:Int)) (dfl (Ty.st SN.term)))<=n/\allT ai (List.getD t.parts (Int.toNat (0:Int)) (dfl (Ty.st SN.term)))=true/\List.length e.values+(4096:Nat) *szT (List.getD t.parts (Int.toNat (0:Int)) (dfl (Ty.st SN.term)))<=(100000000:Nat))/\True/\Option.elim x.2 ao aM=(cE (aa n) t e).1/\(az (aa n) (List.getD t.parts (Int.toNat (0:Int)) (dfl (Ty.st SN.term))) {kind:=(10:Int),pkg:=e.self,name:=t.name,names:=[],parts:=[]:Shape} e).err=(cE (aa n) t e).2.err/\(az (aa n) (List.getD t.parts (Int.toNat (0:Int)) (dfl (Ty.st SN.term))) {kind:=(10:Int),pkg:=e.self,name:=t.name,names:=[],parts:=[]:Shape} e).pos=(cE (aa n) t e).2.pos/\True else ((0:Int)<=(0:Int)/\(0:Int) < (↑(List.length t.parts):Int))/\(szT (List.getD t.parts (Int.toNat (0:Int)) (dfl (Ty.st SN.term)))<=n/\allT ai (List.getD t.parts (Int.toNat (0:Int)) (dfl (Ty.st SN.term)))=true/\List.length e.values+(4096:Nat) *szT (List.getD t.parts (Int.toNat (0:Int)) (dfl (Ty.st SN.term)))<=(100000000:Nat))/\True/\(10:Int)=(cE (aa n) t e).1.kind/\e.self=(cE (aa n) t e).1.pkg/\t.name=(cE (aa n) t e).1.name/\(cE (aa n) t e).1.names=[]/\(cE (aa n) t e).1.parts=[]/\(az (aa n) (List.getD t.parts (Int.toNat (0:Int)) (dfl (Ty.st SN.term))) (Option.elim x.2 ao aM) e).err=(cE (aa n) t e).2.err/\(az (aa n) (List.getD t.parts (Int.toNat (0:Int)) (dfl (Ty.st SN.term))) (Option.elim x.2 ao aM) e).pos=(cE (aa n) t e).2.pos/\True:=by
 have ln:e.own.length<=9223372036854775807:=he.env_own.len
 have p0:=oQ (dfl (.st .term)) hz hf hp
 have q0:e.values.length+4096 *szT (t.parts.getD (Int.toNat 0) (dfl (.st .term)))<=100000000:=by rw [show Int.toNat 0=0 from rfl];have:=p0.2.2;omega
 simp only [eq_self,true_and,and_true]
 refine ⟨bJ (by omega) (by omega),⟨(e.own.length,none),⟨Nat.le_refl _,fun _=>by rw [List.take_length],fun s h=>nomatch h⟩,rfl,rfl,rfl,rfl,rfl,rfl,rfl⟩,?_⟩
 rintro ⟨x,o⟩ ⟨h1,h2,h3⟩
 dsimp only at h1 h2 h3 ⊢
 refine ab (fun h=>ab (fun ho=>?_) (fun ho=>?_)) (fun h=>?_)
 ·have h:=Xo h
  obtain rfl:o=none:=by cases o with | none=>rfl | some s=>exact absurd ho Bool.false_ne_true
  obtain ⟨k,rfl⟩:∃k,x=k+1:=⟨x - 1,by omega⟩
  have e1:(((k+1:Nat):Int) - 1)=(k:Int):=by omega
  have h2:=h2 rfl
  rw [vT e.own t.name (dfl (.st .bind)) (by omega)] at h2
  simp only [e1,Int.toNat_natCast]
  refine ⟨by omega,ab (fun c=>?_) (fun c=>?_)⟩
  ·rw [if_pos (Xo c)] at h2
   exact ⟨by omega,bJ (by omega) (by omega),(k,some (e.own.getD k (dfl (.st .bind))).shape),⟨by dsimp only;omega,fun g=>(by cases g),fun s g=>(by cases g;exact h2)⟩,by dsimp only;omega,rfl,rfl,rfl⟩
  ·rw [if_neg (fun g=>c (Xd g))] at h2
   exact ⟨bJ (by omega) (by omega),(k,none),⟨by dsimp only;omega,fun _=>h2,fun s g=>(by cases g)⟩,by dsimp only;omega,rfl,rfl,rfl⟩
 ·have ho:o=cQ e.own t.name:=by
   cases o with
   | none=>exact absurd rfl ho
   | some s=>exact (h3 s rfl).symm
  cases o with
  | none=>rw [jD ho.symm];exact ab (fun _=>⟨rfl,rfl,rfl⟩) (fun c=>absurd rfl c)
  | some s=>
   rw [jE ho.symm]
   refine ab (fun c=>absurd c Bool.false_ne_true) (fun _=>ab (fun c=>?_) (fun c=>?_))
   ·rw [if_pos (Xo c)]
    exact ⟨by omega,⟨p0.1,p0.2.1,q0⟩,rfl,rfl,rfl⟩
   ·rw [if_neg (fun g=>c (Xd g))]
    exact ⟨by omega,⟨p0.1,p0.2.1,q0⟩,rfl,rfl,rfl,rfl,rfl,rfl,rfl⟩
 ·have h:¬(0:Int)<=(x:Int) - 1:=fun g=>h (Xd g)
  obtain rfl:x=0:=by omega
  have ho:o=cQ e.own t.name:=by
   cases o with
   | none=>exact (h2 rfl).symm
   | some s=>exact (h3 s rfl).symm
  cases o with
  | none=>rw [jD ho.symm];exact ab (fun _=>⟨rfl,rfl,rfl⟩) (fun c=>absurd rfl c)
  | some s=>
   rw [jE ho.symm]
   refine ab (fun c=>absurd c Bool.false_ne_true) (fun _=>ab (fun c=>?_) (fun c=>?_))
   ·rw [if_pos (Xo c)]
    exact ⟨by omega,⟨p0.1,p0.2.1,q0⟩,rfl,rfl,rfl⟩
   ·rw [if_neg (fun g=>c (Xd g))]
    exact ⟨by omega,⟨p0.1,p0.2.1,q0⟩,rfl,rfl,rfl,rfl,rfl,rfl,rfl⟩
theorem zt (n:Nat) (t:Trm) (e:Envt) (ht:Wf (.st .term) t) (he:Wf (.st .env) e) (hk:t.kind=6∨t.kind=11∨t.kind=12∨t.kind=13∨t.kind=15) (hz:szT t<=n+1) (hf:allT ai t=true) (hv:e.values.length+4096 *szT t<=100000000) :
  List.length t.shapes<=(1000000:Nat)/\if (!decide ((ae e.types t.pos t.shapes).2.err=(0:Int)))=true then True/\(0:Int)=(aD (aa n) t e).1.kind/\[]=(aD (aa n) t e).1.pkg/\[]=(aD (aa n) t e).1.name/\(aD (aa n) t e).1.names=[]/\(aD (aa n) t e).1.parts=[]/\(ae e.types t.pos t.shapes).2.err=(aD (aa n) t e).2.err/\(ae e.types t.pos t.shapes).2.pos=(aD (aa n) t e).2.pos/\True else inR IntKind.i64 ((↑(List.length (ae e.types t.pos t.shapes).1):Int) - (1:Int))/\if decide (t.kind=(6:Int))=true then (∃(x:Nat × Envt),(x.1<=List.length t.names/\List.length x.2.values=List.length e.values+x.1/\bA x.2 (dQ (List.drop x.1 t.names) (List.drop x.1 (ae e.types t.pos t.shapes).1))=bA e (dQ t.names (ae e.types t.pos t.shapes).1))/\(0:Int)=(↑x.1:Int)/\t=t/\e=e/\(ae e.types t.pos t.shapes).1=(ae e.types t.pos t.shapes).1/\false=false/\(↑(List.length (ae e.types t.pos t.shapes).1):Int) - (1:Int)=(↑(List.length (ae e.types t.pos t.shapes).1):Int) - (1:Int)/\t.kind=t.kind/\true=true/\t.names=t.names/\(↑(List.length t.names):Int)=(↑(List.length t.names):Int)/\e=x.2/\t=t/\(0:Int)=(0:Int)/\aE UInt8=aE UInt8/\aE UInt8=aE UInt8/\(0:Int)=(0:Int)/\(0:Int)=(0:Int)/\List.length (ae e.types t.pos t.shapes).1=List.length (ae e.types t.pos t.shapes).1/\(ae e.types t.pos t.shapes).2.err=(ae e.types t.pos t.shapes).2.err/\(ae e.types t.pos t.shapes).2.pos=(ae e.types t.pos t.shapes).2.pos/\True)/\∀(x:Nat × Envt),x.1<=List.length t.names/\List.length x.2.values=List.length e.values+x.1/\bA x.2 (dQ (List.drop x.1 t.names) (List.drop x.1 (ae e.types t.pos t.shapes).1))=bA e (dQ t.names (ae e.types t.pos t.shapes).1)→if decide ((↑x.1:Int) < (↑(List.length t.names):Int))=true then ((0:Int)<=(↑x.1:Int)/\(↑x.1:Int) < (↑(List.length t.names):Int))/\((0:Int)<=(↑x.1:Int)/\(↑x.1:Int) < (↑(List.length (ae e.types t.pos t.shapes).1):Int))/\(List.length x.2.values<=(1000000000:Nat)/\List.length [{pkg:=[],name:=List.getD t.names (Int.toNat (↑x.1:Int)) (dfl Ty.str),shape:=AL.Shape.mk ((List.getD (ae e.types t.pos t.shapes).1 (Int.toNat (↑x.1:Int)) (dfl (Ty.st SN.shape))).kind) ((List.getD (ae e.types t.pos t.shapes).1 (Int.toNat (↑x.1:Int)) (dfl (Ty.st SN.shape))).pkg) ((List.getD (ae e.types t.pos t.shapes).1 (Int.toNat (↑x.1:Int)) (dfl (Ty.st SN.shape))).name) ((List.getD (ae e.types t.pos t.shapes).1 (Int.toNat (↑x.1:Int)) (dfl (Ty.st SN.shape))).names) ((List.getD (ae e.types t.pos t.shapes).1 (Int.toNat (↑x.1:Int)) (dfl (Ty.st SN.shape))).parts):Bndg}]<=(1000:Nat))/\inR IntKind.i64 ((↑x.1:Int)+(1:Int))/\∃(y:Nat × Envt),(y.1<=List.length t.names/\List.length y.2.values=List.length e.values+y.1/\bA y.2 (dQ (List.drop y.1 t.names) (List.drop y.1 (ae e.types t.pos t.shapes).1))=bA e (dQ t.names (ae e.types t.pos t.shapes).1))/\List.length t.names - y.1 < List.length t.names - x.1/\(↑x.1:Int)+(1:Int)=(↑y.1:Int)/\t=t/\e=e/\(ae e.types t.pos t.shapes).1=(ae e.types t.pos t.shapes).1/\false=false/\(↑(List.length (ae e.types t.pos t.shapes).1):Int) - (1:Int)=(↑(List.length (ae e.types t.pos t.shapes).1):Int) - (1:Int)/\t.kind=t.kind/\true=true/\t.names=t.names/\(↑(List.length t.names):Int)=(↑(List.length t.names):Int)
  /\bA x.2 [{pkg:=[],name:=List.getD t.names (Int.toNat (↑x.1:Int)) (dfl Ty.str),shape:=AL.Shape.mk ((List.getD (ae e.types t.pos t.shapes).1 (Int.toNat (↑x.1:Int)) (dfl (Ty.st SN.shape))).kind) ((List.getD (ae e.types t.pos t.shapes).1 (Int.toNat (↑x.1:Int)) (dfl (Ty.st SN.shape))).pkg) ((List.getD (ae e.types t.pos t.shapes).1 (Int.toNat (↑x.1:Int)) (dfl (Ty.st SN.shape))).name) ((List.getD (ae e.types t.pos t.shapes).1 (Int.toNat (↑x.1:Int)) (dfl (Ty.st SN.shape))).names) ((List.getD (ae e.types t.pos t.shapes).1 (Int.toNat (↑x.1:Int)) (dfl (Ty.st SN.shape))).parts):Bndg}]=y.2/\t=t/\(0:Int)=(0:Int)/\aE UInt8=aE UInt8/\aE UInt8=aE UInt8/\(0:Int)=(0:Int)/\(0:Int)=(0:Int)/\List.length (ae e.types t.pos t.shapes).1=List.length (ae e.types t.pos t.shapes).1/\(ae e.types t.pos t.shapes).2.err=(ae e.types t.pos t.shapes).2.err/\(ae e.types t.pos t.shapes).2.pos=(ae e.types t.pos t.shapes).2.pos/\True else ((0:Int)<=(0:Int)/\(0:Int) < (↑(List.length t.parts):Int))/\(szT (List.getD t.parts (Int.toNat (0:Int)) (dfl (Ty.st SN.term)))<=n/\allT ai (List.getD t.parts (Int.toNat (0:Int)) (dfl (Ty.st SN.term)))=true/\List.length x.2.values+(4096:Nat) *szT (List.getD t.parts (Int.toNat (0:Int)) (dfl (Ty.st SN.term)))<=(100000000:Nat))/\(List.length (ae e.types t.pos t.shapes).1=List.length (ae e.types t.pos t.shapes).1/\(List.length (ae e.types t.pos t.shapes).1+List.length [(aa n (List.getD t.parts (Int.toNat (0:Int)) (dfl (Ty.st SN.term))) x.2).1]) *(88:Nat)<=(140737488355328:Nat))/\True/\(8:Int)=(aD (aa n) t e).1.kind/\[]=(aD (aa n) t e).1.pkg/\[]=(aD (aa n) t e).1.name/\(aD (aa n) t e).1.names=[]/\(ae e.types t.pos t.shapes).1++[(aa n (List.getD t.parts (Int.toNat (0:Int)) (dfl (Ty.st SN.term))) x.2).1]=(aD (aa n) t e).1.parts/\(aa n (List.getD t.parts (Int.toNat (0:Int)) (dfl (Ty.st SN.term))) x.2).2.err=(aD (aa n) t e).2.err/\(aa n (List.getD t.parts (Int.toNat (0:Int)) (dfl (Ty.st SN.term))) x.2).2.pos=(aD (aa n) t e).2.pos/\True else if decide (t.kind=(11:Int))=true then (∃(x:Nat),(x<=List.length t.parts/\cv (aa n) e (List.getD (ae e.types t.pos t.shapes).1 (0:Nat) ao) (List.drop x t.parts)=cv (aa n) e (List.getD (ae e.types t.pos t.shapes).1 (0:Nat) ao) t.parts)/\(0:Int)=(↑x:Int)/\t=t/\e=e/\(ae e.types t.pos t.shapes).1=(ae e.types t.pos t.shapes).1/\false=false/\(↑(List.length (ae e.types t.pos t.shapes).1):Int) - (1:Int)=(↑(List.length (ae e.types t.pos t.shapes).1):Int) - (1:Int)/\t.kind=t.kind/\false=false/\true=true/\t.parts=t.parts/\(↑(List.length t.parts):Int)=(↑(List.length t.parts):Int)/\t=t/\e=e/\(0:Int)=(0:Int)/\aE UInt8=aE UInt8/\aE UInt8=aE UInt8/\(0:Int)=(0:Int)/\(0:Int)=(0:Int)/\List.length (ae e.types t.pos t.shapes).1=List.length (ae e.types t.pos t.shapes).1/\(ae e.types t.pos t.shapes).2.err=(ae e.types t.pos t.shapes).2.err/\(ae e.types t.pos t.shapes).2.pos=(ae e.types t.pos t.shapes).2.pos/\True)/\∀(x:Nat),x<=List.length t.parts/\cv (aa n) e (List.getD (ae e.types t.pos t.shapes).1 (0:Nat) ao) (List.drop x t.parts)=cv (aa n) e (List.getD (ae e.types t.pos t.shapes).1 (0:Nat) ao) t.parts→if decide ((↑x:Int) < (↑(List.length t.parts):Int))=true then ((0:Int)<=(↑x:Int)/\(↑x:Int) < (↑(List.length t.parts):Int))/\((0:Int)<=(0:Int)/\(0:Int) < (↑(List.length (ae e.types t.pos t.shapes).1):Int))/\(szT (List.getD t.parts (Int.toNat (↑x:Int)) (dfl (Ty.st SN.term)))<=n
  /\allT ai (List.getD t.parts (Int.toNat (↑x:Int)) (dfl (Ty.st SN.term)))=true/\List.length e.values+(4096:Nat) *szT (List.getD t.parts (Int.toNat (↑x:Int)) (dfl (Ty.st SN.term)))<=(100000000:Nat))/\if (!decide ((az (aa n) (List.getD t.parts (Int.toNat (↑x:Int)) (dfl (Ty.st SN.term))) (List.getD (ae e.types t.pos t.shapes).1 (Int.toNat (0:Int)) (dfl (Ty.st SN.shape))) e).err=(0:Int)))=true then ((0:Int)<=(0:Int)/\(0:Int) < (↑(List.length (ae e.types t.pos t.shapes).1):Int))/\True/\List.getD (ae e.types t.pos t.shapes).1 (Int.toNat (0:Int)) (dfl (Ty.st SN.shape))=(aD (aa n) t e).1/\(az (aa n) (List.getD t.parts (Int.toNat (↑x:Int)) (dfl (Ty.st SN.term))) (List.getD (ae e.types t.pos t.shapes).1 (Int.toNat (0:Int)) (dfl (Ty.st SN.shape))) e).err=(aD (aa n) t e).2.err/\(az (aa n) (List.getD t.parts (Int.toNat (↑x:Int)) (dfl (Ty.st SN.term))) (List.getD (ae e.types t.pos t.shapes).1 (Int.toNat (0:Int)) (dfl (Ty.st SN.shape))) e).pos=(aD (aa n) t e).2.pos/\True else inR IntKind.i64 ((↑x:Int)+(1:Int))/\∃(y:Nat),(y<=List.length t.parts/\cv (aa n) e (List.getD (ae e.types t.pos t.shapes).1 (0:Nat) ao) (List.drop y t.parts)=cv (aa n) e (List.getD (ae e.types t.pos t.shapes).1 (0:Nat) ao) t.parts)/\List.length t.parts - y < List.length t.parts - x/\(↑x:Int)+(1:Int)=(↑y:Int)/\t=t/\e=e/\(ae e.types t.pos t.shapes).1=(ae e.types t.pos t.shapes).1/\false=false/\(↑(List.length (ae e.types t.pos t.shapes).1):Int) - (1:Int)=(↑(List.length (ae e.types t.pos t.shapes).1):Int) - (1:Int)/\t.kind=t.kind/\false=false/\true=true/\t.parts=t.parts/\(↑(List.length t.parts):Int)=(↑(List.length t.parts):Int)/\t=t/\e=e/\(0:Int)=(0:Int)/\aE UInt8=aE UInt8/\aE UInt8=aE UInt8/\(0:Int)=(0:Int)/\(0:Int)=(0:Int)/\List.length (ae e.types t.pos t.shapes).1=List.length (ae e.types t.pos t.shapes).1/\(ae e.types t.pos t.shapes).2.err=(ae e.types t.pos t.shapes).2.err/\(ae e.types t.pos t.shapes).2.pos=(ae e.types t.pos t.shapes).2.pos/\True else True/\(5:Int)=(aD (aa n) t e).1.kind/\[]=(aD (aa n) t e).1.pkg/\[]=(aD (aa n) t e).1.name/\(aD (aa n) t e).1.names=[]/\(ae e.types t.pos t.shapes).1=(aD (aa n) t e).1.parts/\(0:Int)=(aD (aa n) t e).2.err/\(0:Int)=(aD (aa n) t e).2.pos/\True else if decide (t.kind=(15:Int))=true then ((0:Int)<=(0:Int)/\(0:Int) < (↑(List.length (ae e.types t.pos t.shapes).1):Int))/\((0:Int)<=(0:Int)/\(0:Int) < (↑(List.length t.parts):Int))/\((0:Int)<=(0:Int)/\(0:Int) < (↑(List.length (ae e.types t.pos t.shapes).1):Int))/\(szT (List.getD t.parts (Int.toNat (0:Int)) (dfl (Ty.st SN.term)))<=n/\allT ai (List.getD t.parts (Int.toNat (0:Int)) (dfl (Ty.st SN.term)))=true/\List.length e.values+(4096:Nat) *szT (List.getD t.parts (Int.toNat (0:Int)) (dfl (Ty.st SN.term)))<=(100000000:Nat))/\True/\List.getD (ae e.types t.pos t.shapes).1 (Int.toNat (0:Int)) (dfl (Ty.st SN.shape))=(aD (aa n) t e).1/\(az (aa n) (List.getD t.parts (Int.toNat (0:Int)) (dfl (Ty.st SN.term))) (List.getD (ae e.types t.pos t.shapes).1 (Int.toNat (0:Int)) (dfl (Ty.st SN.shape))) e).err=(aD (aa n) t e).2.err/\(az (aa n) (List.getD t.parts (Int.toNat (0:Int)) (dfl (Ty.st SN.term))) (List.getD (ae e.types t.pos t.shapes).1 (Int.toNat (0:Int)) (dfl (Ty.st SN.shape))) e).pos=(aD (aa n) t e).2.pos/\True else if decide (t.kind=(12:Int))=true then ((0:Int)<=(0:Int)/\(0:Int) < (↑(List.length t.parts):Int))
  /\(szT (List.getD t.parts (Int.toNat (0:Int)) (dfl (Ty.st SN.term)))<=n/\allT ai (List.getD t.parts (Int.toNat (0:Int)) (dfl (Ty.st SN.term)))=true/\List.length e.values+(4096:Nat) *szT (List.getD t.parts (Int.toNat (0:Int)) (dfl (Ty.st SN.term)))<=(100000000:Nat))/\if (!decide ((az (aa n) (List.getD t.parts (Int.toNat (0:Int)) (dfl (Ty.st SN.term))) (ofK (2:Int)) e).err=(0:Int)))=true then ((0:Int)<=(0:Int)/\(0:Int) < (↑(List.length (ae e.types t.pos t.shapes).1):Int))/\True/\List.getD (ae e.types t.pos t.shapes).1 (Int.toNat (0:Int)) (dfl (Ty.st SN.shape))=(aD (aa n) t e).1/\(az (aa n) (List.getD t.parts (Int.toNat (0:Int)) (dfl (Ty.st SN.term))) (ofK (2:Int)) e).err=(aD (aa n) t e).2.err/\(az (aa n) (List.getD t.parts (Int.toNat (0:Int)) (dfl (Ty.st SN.term))) (ofK (2:Int)) e).pos=(aD (aa n) t e).2.pos/\True else ((0:Int)<=(1:Int)/\(1:Int) < (↑(List.length t.parts):Int))/\((0:Int)<=(0:Int)/\(0:Int) < (↑(List.length (ae e.types t.pos t.shapes).1):Int))/\(szT (List.getD t.parts (Int.toNat (1:Int)) (dfl (Ty.st SN.term)))<=n/\allT ai (List.getD t.parts (Int.toNat (1:Int)) (dfl (Ty.st SN.term)))=true/\List.length e.values+(4096:Nat) *szT (List.getD t.parts (Int.toNat (1:Int)) (dfl (Ty.st SN.term)))<=(100000000:Nat))/\if (!decide ((az (aa n) (List.getD t.parts (Int.toNat (1:Int)) (dfl (Ty.st SN.term))) (List.getD (ae e.types t.pos t.shapes).1 (Int.toNat (0:Int)) (dfl (Ty.st SN.shape))) e).err=(0:Int)))=true then ((0:Int)<=(0:Int)/\(0:Int) < (↑(List.length (ae e.types t.pos t.shapes).1):Int))/\True/\List.getD (ae e.types t.pos t.shapes).1 (Int.toNat (0:Int)) (dfl (Ty.st SN.shape))=(aD (aa n) t e).1/\(az (aa n) (List.getD t.parts (Int.toNat (1:Int)) (dfl (Ty.st SN.term))) (List.getD (ae e.types t.pos t.shapes).1 (Int.toNat (0:Int)) (dfl (Ty.st SN.shape))) e).err=(aD (aa n) t e).2.err/\(az (aa n) (List.getD t.parts (Int.toNat (1:Int)) (dfl (Ty.st SN.term))) (List.getD (ae e.types t.pos t.shapes).1 (Int.toNat (0:Int)) (dfl (Ty.st SN.shape))) e).pos=(aD (aa n) t e).2.pos/\True else ((0:Int)<=(0:Int)/\(0:Int) < (↑(List.length (ae e.types t.pos t.shapes).1):Int))/\((0:Int)<=(2:Int)/\(2:Int) < (↑(List.length t.parts):Int))/\((0:Int)<=(0:Int)/\(0:Int) < (↑(List.length (ae e.types t.pos t.shapes).1):Int))/\(szT (List.getD t.parts (Int.toNat (2:Int)) (dfl (Ty.st SN.term)))<=n/\allT ai (List.getD t.parts (Int.toNat (2:Int)) (dfl (Ty.st SN.term)))=true/\List.length e.values+(4096:Nat) *szT (List.getD t.parts (Int.toNat (2:Int)) (dfl (Ty.st SN.term)))<=(100000000:Nat))/\True/\List.getD (ae e.types t.pos t.shapes).1 (Int.toNat (0:Int)) (dfl (Ty.st SN.shape))=(aD (aa n) t e).1/\(az (aa n) (List.getD t.parts (Int.toNat (2:Int)) (dfl (Ty.st SN.term))) (List.getD (ae e.types t.pos t.shapes).1 (Int.toNat (0:Int)) (dfl (Ty.st SN.shape))) e).err=(aD (aa n) t e).2.err/\(az (aa n) (List.getD t.parts (Int.toNat (2:Int)) (dfl (Ty.st SN.term))) (List.getD (ae e.types t.pos t.shapes).1 (Int.toNat (0:Int)) (dfl (Ty.st SN.shape))) e).pos=(aD (aa n) t e).2.pos/\True else ((0:Int)<=(0:Int)/\(0:Int) < (↑(List.length t.parts):Int))/\((0:Int)<=(0:Int)/\(0:Int)<=(↑(List.length (ae e.types t.pos t.shapes).1):Int) - (1:Int)/\(↑(List.length (ae e.types t.pos t.shapes).1):Int) - (1:Int)<=(↑(List.length (ae e.types t.pos t.shapes).1):Int))/\(szT (List.getD t.parts (Int.toNat (0:Int)) (dfl (Ty.st SN.term)))<=n/\allT ai (List.getD t.parts (Int.toNat (0:Int)) (dfl (Ty.st SN.term)))=true
  /\List.length e.values+(4096:Nat) *szT (List.getD t.parts (Int.toNat (0:Int)) (dfl (Ty.st SN.term)))<=(100000000:Nat))/\if (!decide ((az (aa n) (List.getD t.parts (Int.toNat (0:Int)) (dfl (Ty.st SN.term))) {kind:=(7:Int),pkg:=[],name:=[],names:=t.names,parts:=List.drop (Int.toNat (0:Int)) (List.take (Int.toNat ((↑(List.length (ae e.types t.pos t.shapes).1):Int) - (1:Int))) (ae e.types t.pos t.shapes).1):Shape} e).err=(0:Int)))=true then ((0:Int)<=(↑(List.length (ae e.types t.pos t.shapes).1):Int) - (1:Int)/\(↑(List.length (ae e.types t.pos t.shapes).1):Int) - (1:Int) < (↑(List.length (ae e.types t.pos t.shapes).1):Int))/\True/\List.getD (ae e.types t.pos t.shapes).1 (Int.toNat ((↑(List.length (ae e.types t.pos t.shapes).1):Int) - (1:Int))) (dfl (Ty.st SN.shape))=(aD (aa n) t e).1/\(az (aa n) (List.getD t.parts (Int.toNat (0:Int)) (dfl (Ty.st SN.term))) {kind:=(7:Int),pkg:=[],name:=[],names:=t.names,parts:=List.drop (Int.toNat (0:Int)) (List.take (Int.toNat ((↑(List.length (ae e.types t.pos t.shapes).1):Int) - (1:Int))) (ae e.types t.pos t.shapes).1):Shape} e).err=(aD (aa n) t e).2.err/\(az (aa n) (List.getD t.parts (Int.toNat (0:Int)) (dfl (Ty.st SN.term))) {kind:=(7:Int),pkg:=[],name:=[],names:=t.names,parts:=List.drop (Int.toNat (0:Int)) (List.take (Int.toNat ((↑(List.length (ae e.types t.pos t.shapes).1):Int) - (1:Int))) (ae e.types t.pos t.shapes).1):Shape} e).pos=(aD (aa n) t e).2.pos/\True else ((0:Int)<=(1:Int)/\(1:Int)<=(↑(List.length t.parts):Int)/\(↑(List.length t.parts):Int)<=(↑(List.length t.parts):Int))/\(∃(x:Nat × Flt),(x.1+(1:Nat)<=List.length t.parts/\x.2.err=(0:Int)/\x.2.pos=(0:Int)/\eC (aa n) e (List.getD (ae e.types t.pos t.shapes).1 (List.length (ae e.types t.pos t.shapes).1 - (1:Nat)) ao) (List.drop (x.1+(1:Nat)) t.parts) (List.drop x.1 t.vars) (List.drop x.1 (ae e.types t.pos t.shapes).1)=eC (aa n) e (List.getD (ae e.types t.pos t.shapes).1 (List.length (ae e.types t.pos t.shapes).1 - (1:Nat)) ao) (List.drop (1:Nat) t.parts) t.vars (ae e.types t.pos t.shapes).1)/\(0:Int)=(↑x.1:Int)/\t=t/\e=e/\(ae e.types t.pos t.shapes).1=(ae e.types t.pos t.shapes).1/\false=false/\(↑(List.length (ae e.types t.pos t.shapes).1):Int) - (1:Int)=(↑(List.length (ae e.types t.pos t.shapes).1):Int) - (1:Int)/\t.kind=t.kind/\false=false/\false=false/\false=false/\false=false/\false=false/\List.drop (Int.toNat (1:Int)) (List.take (Int.toNat (↑(List.length t.parts):Int)) t.parts)=List.drop (Int.toNat (1:Int)) (List.take (Int.toNat (↑(List.length t.parts):Int)) t.parts)/\(↑(List.length (List.drop (Int.toNat (1:Int)) (List.take (Int.toNat (↑(List.length t.parts):Int)) t.parts))):Int)=(↑(List.length (List.drop (Int.toNat (1:Int)) (List.take (Int.toNat (↑(List.length t.parts):Int)) t.parts))):Int)/\(ae e.types t.pos t.shapes).2.err=x.2.err/\(ae e.types t.pos t.shapes).2.pos=x.2.pos/\t=t/\e=e/\(0:Int)=(0:Int)/\aE UInt8=aE UInt8/\aE UInt8=aE UInt8/\(0:Int)=(0:Int)/\(0:Int)=(0:Int)/\List.length (ae e.types t.pos t.shapes).1=List.length (ae e.types t.pos t.shapes).1
  /\(az (aa n) (List.getD t.parts (Int.toNat (0:Int)) (dfl (Ty.st SN.term))) {kind:=(7:Int),pkg:=[],name:=[],names:=t.names,parts:=List.drop (Int.toNat (0:Int)) (List.take (Int.toNat ((↑(List.length (ae e.types t.pos t.shapes).1):Int) - (1:Int))) (ae e.types t.pos t.shapes).1):Shape} e).err=(az (aa n) (List.getD t.parts (Int.toNat (0:Int)) (dfl (Ty.st SN.term))) {kind:=(7:Int),pkg:=[],name:=[],names:=t.names,parts:=List.drop (Int.toNat (0:Int)) (List.take (Int.toNat ((↑(List.length (ae e.types t.pos t.shapes).1):Int) - (1:Int))) (ae e.types t.pos t.shapes).1):Shape} e).err/\(az (aa n) (List.getD t.parts (Int.toNat (0:Int)) (dfl (Ty.st SN.term))) {kind:=(7:Int),pkg:=[],name:=[],names:=t.names,parts:=List.drop (Int.toNat (0:Int)) (List.take (Int.toNat ((↑(List.length (ae e.types t.pos t.shapes).1):Int) - (1:Int))) (ae e.types t.pos t.shapes).1):Shape} e).pos=(az (aa n) (List.getD t.parts (Int.toNat (0:Int)) (dfl (Ty.st SN.term))) {kind:=(7:Int),pkg:=[],name:=[],names:=t.names,parts:=List.drop (Int.toNat (0:Int)) (List.take (Int.toNat ((↑(List.length (ae e.types t.pos t.shapes).1):Int) - (1:Int))) (ae e.types t.pos t.shapes).1):Shape} e).pos/\True)/\∀(x:Nat × Flt),x.1+(1:Nat)<=List.length t.parts/\x.2.err=(0:Int)/\x.2.pos=(0:Int)/\eC (aa n) e (List.getD (ae e.types t.pos t.shapes).1 (List.length (ae e.types t.pos t.shapes).1 - (1:Nat)) ao) (List.drop (x.1+(1:Nat)) t.parts) (List.drop x.1 t.vars) (List.drop x.1 (ae e.types t.pos t.shapes).1)=eC (aa n) e (List.getD (ae e.types t.pos t.shapes).1 (List.length (ae e.types t.pos t.shapes).1 - (1:Nat)) ao) (List.drop (1:Nat) t.parts) t.vars (ae e.types t.pos t.shapes).1→if decide ((↑x.1:Int) < (↑(List.length (List.drop (Int.toNat (1:Int)) (List.take (Int.toNat (↑(List.length t.parts):Int)) t.parts))):Int))=true then ((0:Int)<=(↑x.1:Int)/\(↑x.1:Int) < (↑(List.length (List.drop (Int.toNat (1:Int)) (List.take (Int.toNat (↑(List.length t.parts):Int)) t.parts))):Int))/\((0:Int)<=(↑(List.length (ae e.types t.pos t.shapes).1):Int) - (1:Int)/\(↑(List.length (ae e.types t.pos t.shapes).1):Int) - (1:Int) < (↑(List.length (ae e.types t.pos t.shapes).1):Int))/\((0:Int)<=(↑x.1:Int)/\(↑x.1:Int) < (↑(List.length t.vars):Int))/\((0:Int)<=(↑x.1:Int)/\(↑x.1:Int) < (↑(List.length (ae e.types t.pos t.shapes).1):Int))/\(List.length e.values<=(1000000000:Nat)/\List.length [{pkg:=[],name:=List.getD t.vars (Int.toNat (↑x.1:Int)) (dfl Ty.str),shape:=AL.Shape.mk ((List.getD (ae e.types t.pos t.shapes).1 (Int.toNat (↑x.1:Int)) (dfl (Ty.st SN.shape))).kind) ((List.getD (ae e.types t.pos t.shapes).1 (Int.toNat (↑x.1:Int)) (dfl (Ty.st SN.shape))).pkg) ((List.getD (ae e.types t.pos t.shapes).1 (Int.toNat (↑x.1:Int)) (dfl (Ty.st SN.shape))).name) ((List.getD (ae e.types t.pos t.shapes).1 (Int.toNat (↑x.1:Int)) (dfl (Ty.st SN.shape))).names) ((List.getD (ae e.types t.pos t.shapes).1 (Int.toNat (↑x.1:Int)) (dfl (Ty.st SN.shape))).parts):Bndg}]<=(1000:Nat))/\(szT (List.getD (List.drop (Int.toNat (1:Int)) (List.take (Int.toNat (↑(List.length t.parts):Int)) t.parts)) (Int.toNat (↑x.1:Int)) (dfl (Ty.st SN.term)))<=n/\allT ai (List.getD (List.drop (Int.toNat (1:Int)) (List.take (Int.toNat (↑(List.length t.parts):Int)) t.parts)) (Int.toNat (↑x.1:Int)) (dfl (Ty.st SN.term)))=true
  /\List.length (e.values++[{pkg:=[],name:=List.getD t.vars (Int.toNat (↑x.1:Int)) (dfl Ty.str),shape:=AL.Shape.mk ((List.getD (ae e.types t.pos t.shapes).1 (Int.toNat (↑x.1:Int)) (dfl (Ty.st SN.shape))).kind) ((List.getD (ae e.types t.pos t.shapes).1 (Int.toNat (↑x.1:Int)) (dfl (Ty.st SN.shape))).pkg) ((List.getD (ae e.types t.pos t.shapes).1 (Int.toNat (↑x.1:Int)) (dfl (Ty.st SN.shape))).name) ((List.getD (ae e.types t.pos t.shapes).1 (Int.toNat (↑x.1:Int)) (dfl (Ty.st SN.shape))).names) ((List.getD (ae e.types t.pos t.shapes).1 (Int.toNat (↑x.1:Int)) (dfl (Ty.st SN.shape))).parts):Bndg}])+(4096:Nat) *szT (List.getD (List.drop (Int.toNat (1:Int)) (List.take (Int.toNat (↑(List.length t.parts):Int)) t.parts)) (Int.toNat (↑x.1:Int)) (dfl (Ty.st SN.term)))<=(100000000:Nat))/\if (!decide ((az (aa n) (List.getD (List.drop (Int.toNat (1:Int)) (List.take (Int.toNat (↑(List.length t.parts):Int)) t.parts)) (Int.toNat (↑x.1:Int)) (dfl (Ty.st SN.term))) (List.getD (ae e.types t.pos t.shapes).1 (Int.toNat ((↑(List.length (ae e.types t.pos t.shapes).1):Int) - (1:Int))) (dfl (Ty.st SN.shape))) (bA e [{pkg:=[],name:=List.getD t.vars (Int.toNat (↑x.1:Int)) (dfl Ty.str),shape:=AL.Shape.mk ((List.getD (ae e.types t.pos t.shapes).1 (Int.toNat (↑x.1:Int)) (dfl (Ty.st SN.shape))).kind) ((List.getD (ae e.types t.pos t.shapes).1 (Int.toNat (↑x.1:Int)) (dfl (Ty.st SN.shape))).pkg) ((List.getD (ae e.types t.pos t.shapes).1 (Int.toNat (↑x.1:Int)) (dfl (Ty.st SN.shape))).name) ((List.getD (ae e.types t.pos t.shapes).1 (Int.toNat (↑x.1:Int)) (dfl (Ty.st SN.shape))).names) ((List.getD (ae e.types t.pos t.shapes).1 (Int.toNat (↑x.1:Int)) (dfl (Ty.st SN.shape))).parts):Bndg}])).err=(0:Int)))=true then ((0:Int)<=(↑(List.length (ae e.types t.pos t.shapes).1):Int) - (1:Int)/\(↑(List.length (ae e.types t.pos t.shapes).1):Int) - (1:Int) < (↑(List.length (ae e.types t.pos t.shapes).1):Int))/\True/\List.getD (ae e.types t.pos t.shapes).1 (Int.toNat ((↑(List.length (ae e.types t.pos t.shapes).1):Int) - (1:Int))) (dfl (Ty.st SN.shape))=(aD (aa n) t e).1/\(az (aa n) (List.getD (List.drop (Int.toNat (1:Int)) (List.take (Int.toNat (↑(List.length t.parts):Int)) t.parts)) (Int.toNat (↑x.1:Int)) (dfl (Ty.st SN.term))) (List.getD (ae e.types t.pos t.shapes).1 (Int.toNat ((↑(List.length (ae e.types t.pos t.shapes).1):Int) - (1:Int))) (dfl (Ty.st SN.shape))) (bA e [{pkg:=[],name:=List.getD t.vars (Int.toNat (↑x.1:Int)) (dfl Ty.str),shape:=AL.Shape.mk ((List.getD (ae e.types t.pos t.shapes).1 (Int.toNat (↑x.1:Int)) (dfl (Ty.st SN.shape))).kind) ((List.getD (ae e.types t.pos t.shapes).1 (Int.toNat (↑x.1:Int)) (dfl (Ty.st SN.shape))).pkg) ((List.getD (ae e.types t.pos t.shapes).1 (Int.toNat (↑x.1:Int)) (dfl (Ty.st SN.shape))).name) ((List.getD (ae e.types t.pos t.shapes).1 (Int.toNat (↑x.1:Int)) (dfl (Ty.st SN.shape))).names) ((List.getD (ae e.types t.pos t.shapes).1 (Int.toNat (↑x.1:Int)) (dfl (Ty.st SN.shape))).parts):Bndg}])).err=(aD (aa n) t e).2.err
  /\(az (aa n) (List.getD (List.drop (Int.toNat (1:Int)) (List.take (Int.toNat (↑(List.length t.parts):Int)) t.parts)) (Int.toNat (↑x.1:Int)) (dfl (Ty.st SN.term))) (List.getD (ae e.types t.pos t.shapes).1 (Int.toNat ((↑(List.length (ae e.types t.pos t.shapes).1):Int) - (1:Int))) (dfl (Ty.st SN.shape))) (bA e [{pkg:=[],name:=List.getD t.vars (Int.toNat (↑x.1:Int)) (dfl Ty.str),shape:=AL.Shape.mk ((List.getD (ae e.types t.pos t.shapes).1 (Int.toNat (↑x.1:Int)) (dfl (Ty.st SN.shape))).kind) ((List.getD (ae e.types t.pos t.shapes).1 (Int.toNat (↑x.1:Int)) (dfl (Ty.st SN.shape))).pkg) ((List.getD (ae e.types t.pos t.shapes).1 (Int.toNat (↑x.1:Int)) (dfl (Ty.st SN.shape))).name) ((List.getD (ae e.types t.pos t.shapes).1 (Int.toNat (↑x.1:Int)) (dfl (Ty.st SN.shape))).names) ((List.getD (ae e.types t.pos t.shapes).1 (Int.toNat (↑x.1:Int)) (dfl (Ty.st SN.shape))).parts):Bndg}])).pos=(aD (aa n) t e).2.pos/\True else inR IntKind.i64 ((↑x.1:Int)+(1:Int))/\∃(y:Nat × Flt),(y.1+(1:Nat)<=List.length t.parts/\y.2.err=(0:Int)/\y.2.pos=(0:Int)/\eC (aa n) e (List.getD (ae e.types t.pos t.shapes).1 (List.length (ae e.types t.pos t.shapes).1 - (1:Nat)) ao) (List.drop (y.1+(1:Nat)) t.parts) (List.drop y.1 t.vars) (List.drop y.1 (ae e.types t.pos t.shapes).1)=eC (aa n) e (List.getD (ae e.types t.pos t.shapes).1 (List.length (ae e.types t.pos t.shapes).1 - (1:Nat)) ao) (List.drop (1:Nat) t.parts) t.vars (ae e.types t.pos t.shapes).1)/\List.length t.parts - y.1 < List.length t.parts - x.1/\(↑x.1:Int)+(1:Int)=(↑y.1:Int)/\t=t/\e=e/\(ae e.types t.pos t.shapes).1=(ae e.types t.pos t.shapes).1/\false=false/\(↑(List.length (ae e.types t.pos t.shapes).1):Int) - (1:Int)=(↑(List.length (ae e.types t.pos t.shapes).1):Int) - (1:Int)/\t.kind=t.kind/\false=false/\false=false/\false=false/\false=false/\false=false/\List.drop (Int.toNat (1:Int)) (List.take (Int.toNat (↑(List.length t.parts):Int)) t.parts)=List.drop (Int.toNat (1:Int)) (List.take (Int.toNat (↑(List.length t.parts):Int)) t.parts)/\(↑(List.length (List.drop (Int.toNat (1:Int)) (List.take (Int.toNat (↑(List.length t.parts):Int)) t.parts))):Int)=(↑(List.length (List.drop (Int.toNat (1:Int)) (List.take (Int.toNat (↑(List.length t.parts):Int)) t.parts))):Int)/\(az (aa n) (List.getD (List.drop (Int.toNat (1:Int)) (List.take (Int.toNat (↑(List.length t.parts):Int)) t.parts)) (Int.toNat (↑x.1:Int)) (dfl (Ty.st SN.term))) (List.getD (ae e.types t.pos t.shapes).1 (Int.toNat ((↑(List.length (ae e.types t.pos t.shapes).1):Int) - (1:Int))) (dfl (Ty.st SN.shape))) (bA e [{pkg:=[],name:=List.getD t.vars (Int.toNat (↑x.1:Int)) (dfl Ty.str),shape:=AL.Shape.mk ((List.getD (ae e.types t.pos t.shapes).1 (Int.toNat (↑x.1:Int)) (dfl (Ty.st SN.shape))).kind) ((List.getD (ae e.types t.pos t.shapes).1 (Int.toNat (↑x.1:Int)) (dfl (Ty.st SN.shape))).pkg) ((List.getD (ae e.types t.pos t.shapes).1 (Int.toNat (↑x.1:Int)) (dfl (Ty.st SN.shape))).name) ((List.getD (ae e.types t.pos t.shapes).1 (Int.toNat (↑x.1:Int)) (dfl (Ty.st SN.shape))).names) ((List.getD (ae e.types t.pos t.shapes).1 (Int.toNat (↑x.1:Int)) (dfl (Ty.st SN.shape))).parts):Bndg}])).err=y.2.err
  /\(az (aa n) (List.getD (List.drop (Int.toNat (1:Int)) (List.take (Int.toNat (↑(List.length t.parts):Int)) t.parts)) (Int.toNat (↑x.1:Int)) (dfl (Ty.st SN.term))) (List.getD (ae e.types t.pos t.shapes).1 (Int.toNat ((↑(List.length (ae e.types t.pos t.shapes).1):Int) - (1:Int))) (dfl (Ty.st SN.shape))) (bA e [{pkg:=[],name:=List.getD t.vars (Int.toNat (↑x.1:Int)) (dfl Ty.str),shape:=AL.Shape.mk ((List.getD (ae e.types t.pos t.shapes).1 (Int.toNat (↑x.1:Int)) (dfl (Ty.st SN.shape))).kind) ((List.getD (ae e.types t.pos t.shapes).1 (Int.toNat (↑x.1:Int)) (dfl (Ty.st SN.shape))).pkg) ((List.getD (ae e.types t.pos t.shapes).1 (Int.toNat (↑x.1:Int)) (dfl (Ty.st SN.shape))).name) ((List.getD (ae e.types t.pos t.shapes).1 (Int.toNat (↑x.1:Int)) (dfl (Ty.st SN.shape))).names) ((List.getD (ae e.types t.pos t.shapes).1 (Int.toNat (↑x.1:Int)) (dfl (Ty.st SN.shape))).parts):Bndg}])).pos=y.2.pos/\t=t/\e=e/\(0:Int)=(0:Int)/\aE UInt8=aE UInt8/\aE UInt8=aE UInt8/\(0:Int)=(0:Int)/\(0:Int)=(0:Int)/\List.length (ae e.types t.pos t.shapes).1=List.length (ae e.types t.pos t.shapes).1/\(az (aa n) (List.getD t.parts (Int.toNat (0:Int)) (dfl (Ty.st SN.term))) {kind:=(7:Int),pkg:=[],name:=[],names:=t.names,parts:=List.drop (Int.toNat (0:Int)) (List.take (Int.toNat ((↑(List.length (ae e.types t.pos t.shapes).1):Int) - (1:Int))) (ae e.types t.pos t.shapes).1):Shape} e).err=(az (aa n) (List.getD t.parts (Int.toNat (0:Int)) (dfl (Ty.st SN.term))) {kind:=(7:Int),pkg:=[],name:=[],names:=t.names,parts:=List.drop (Int.toNat (0:Int)) (List.take (Int.toNat ((↑(List.length (ae e.types t.pos t.shapes).1):Int) - (1:Int))) (ae e.types t.pos t.shapes).1):Shape} e).err/\(az (aa n) (List.getD t.parts (Int.toNat (0:Int)) (dfl (Ty.st SN.term))) {kind:=(7:Int),pkg:=[],name:=[],names:=t.names,parts:=List.drop (Int.toNat (0:Int)) (List.take (Int.toNat ((↑(List.length (ae e.types t.pos t.shapes).1):Int) - (1:Int))) (ae e.types t.pos t.shapes).1):Shape} e).pos=(az (aa n) (List.getD t.parts (Int.toNat (0:Int)) (dfl (Ty.st SN.term))) {kind:=(7:Int),pkg:=[],name:=[],names:=t.names,parts:=List.drop (Int.toNat (0:Int)) (List.take (Int.toNat ((↑(List.length (ae e.types t.pos t.shapes).1):Int) - (1:Int))) (ae e.types t.pos t.shapes).1):Shape} e).pos/\True else ((0:Int)<=(↑(List.length (ae e.types t.pos t.shapes).1):Int) - (1:Int)/\(↑(List.length (ae e.types t.pos t.shapes).1):Int) - (1:Int) < (↑(List.length (ae e.types t.pos t.shapes).1):Int))/\True/\List.getD (ae e.types t.pos t.shapes).1 (Int.toNat ((↑(List.length (ae e.types t.pos t.shapes).1):Int) - (1:Int))) (dfl (Ty.st SN.shape))=(aD (aa n) t e).1/\x.2.err=(aD (aa n) t e).2.err/\x.2.pos=(aD (aa n) t e).2.pos/\True:=by
 have rm:=xz hf
 have ln:=ht.term_parts.len
 have ps:=tM t
 have hds:List.drop (Int.toNat 1) (List.take t.parts.length t.parts)=t.parts.drop 1:=by rw [List.take_length];rfl
 have hdg:∀k:Nat,(t.parts.drop 1).getD k (dfl (.st .term))=t.parts.getD (k+1) (dfl (.st .term)):=fun k=>by
  rw [List.getD_eq_getElem?_getD,List.getD_eq_getElem?_getD,List.getElem?_drop,Nat.add_comm]
 have e0:Int.toNat 0=0:=rfl
 have e1:Int.toNat 1=1:=rfl
 have e2:Int.toNat 2=2:=rfl
 have et:∀s:Shape,AL.Shape.mk s.kind s.pkg s.name s.names s.parts=s:=fun s=>by cases s;rfl
 simp only [hds,et,Int.toNat_natCast,eq_self,true_and,and_true]
 simp only [hdg,e0,e1,e2,List.length_drop,List.drop_zero]
 have hsh:t.shapes.length<=1000000:=by
  rcases hk with k | k | k | k | k
  ·have:=rm.k6 k;omega
  ·have:=rm.k11 k;omega
  ·have:=rm.k12 k;omega
  ·have:=rm.k13 k;omega
  ·have:=rm.k15 k;omega
 have hl:=@oS e.types t.pos t.shapes
 have hok:=@qk e.types t.pos t.shapes
 have hA0:¬(ae e.types t.pos t.shapes).2.err=0→aD (aa n) t e=(ao,(ae e.types t.pos t.shapes).2):=fun h=>by simp only [aD,if_neg h]
 have hA6:(ae e.types t.pos t.shapes).2.err=0→t.kind=6→aD (aa n) t e=(⟨8,[],[],[],(ae e.types t.pos t.shapes).1++[(aa n (t.parts.getD 0 aB) (bA e (dQ t.names (ae e.types t.pos t.shapes).1))).1]⟩,(aa n (t.parts.getD 0 aB) (bA e (dQ t.names (ae e.types t.pos t.shapes).1))).2):=fun h k=>by simp only [aD,if_pos h,if_pos k]
 have hA11:(ae e.types t.pos t.shapes).2.err=0→t.kind=11→aD (aa n) t e=if (cv (aa n) e ((ae e.types t.pos t.shapes).1.getD 0 ao) t.parts).err=0 then (⟨5,[],[],[],(ae e.types t.pos t.shapes).1⟩,ct) else ((ae e.types t.pos t.shapes).1.getD 0 ao,cv (aa n) e ((ae e.types t.pos t.shapes).1.getD 0 ao) t.parts):=fun h k=>by
  simp only [aD,if_pos h,if_neg (show ¬t.kind=6 by omega),if_pos k]
 have hA15:(ae e.types t.pos t.shapes).2.err=0→t.kind=15→aD (aa n) t e=((ae e.types t.pos t.shapes).1.getD 0 ao,az (aa n) (t.parts.getD 0 aB) ((ae e.types t.pos t.shapes).1.getD 0 ao) e):=fun h k=>by
  simp only [aD,if_pos h,if_neg (show ¬t.kind=6 by omega),if_neg (show ¬t.kind=11 by omega),if_pos k]
 have hA12:(ae e.types t.pos t.shapes).2.err=0→t.kind=12→aD (aa n) t e=((ae e.types t.pos t.shapes).1.getD 0 ao,if (az (aa n) (t.parts.getD 0 aB) (ofK 2) e).err=0 then (if (az (aa n) (t.parts.getD 1 aB) ((ae e.types t.pos t.shapes).1.getD 0 ao) e).err=0 then az (aa n) (t.parts.getD 2 aB) ((ae e.types t.pos t.shapes).1.getD 0 ao) e else az (aa n) (t.parts.getD 1 aB) ((ae e.types t.pos t.shapes).1.getD 0 ao) e) else az (aa n) (t.parts.getD 0 aB) (ofK 2) e):=fun h k=>by
  simp only [aD,if_pos h,if_neg (show ¬t.kind=6 by omega),if_neg (show ¬t.kind=11 by omega),if_neg (show ¬t.kind=15 by omega),if_pos k]
 have hA13:(ae e.types t.pos t.shapes).2.err=0→t.kind=13→aD (aa n) t e=((ae e.types t.pos t.shapes).1.getD ((ae e.types t.pos t.shapes).1.length - 1) ao,if (az (aa n) (t.parts.getD 0 aB) ⟨7,[],[],t.names,(ae e.types t.pos t.shapes).1.take ((ae e.types t.pos t.shapes).1.length - 1)⟩ e).err=0 then eC (aa n) e ((ae e.types t.pos t.shapes).1.getD ((ae e.types t.pos t.shapes).1.length - 1) ao) (t.parts.drop 1) t.vars (ae e.types t.pos t.shapes).1 else az (aa n) (t.parts.getD 0 aB) ⟨7,[],[],t.names,(ae e.types t.pos t.shapes).1.take ((ae e.types t.pos t.shapes).1.length - 1)⟩ e):=fun h k=>by
  simp only [aD,if_pos h,if_neg (show ¬t.kind=6 by omega),if_neg (show ¬t.kind=11 by omega),if_neg (show ¬t.kind=15 by omega),if_neg (show ¬t.kind=12 by omega)]
 revert hl hok hA0 hA6 hA11 hA15 hA12 hA13
 generalize aD (aa n) t e=R
 generalize ae e.types t.pos t.shapes=L
 intro hl hok hA0 hA6 hA11 hA15 hA12 hA13
 refine ⟨hsh,ab (fun h=>?_) (fun h=>?_)⟩
 ·rw [hA0 (ndF h)];exact ⟨rfl,rfl,rfl,rfl,rfl,rfl,rfl⟩
 have h:L.2.err=0:=ndT h
 have hl:=hl h
 have hok:L.2=ct:=by rw [hok h]
 have nx:∀{j w:Nat},j < t.parts.length→w<=e.values.length+4096→szT (t.parts.getD j (dfl (.st .term)))<=n/\allT ai (t.parts.getD j (dfl (.st .term)))=true/\w+4096 *szT (t.parts.getD j (dfl (.st .term)))<=100000000:=fun hj hw=>rM hz hf hv _ hj hw
 refine ⟨bJ (by omega) (by omega),ab (fun k=>?_) (fun k6=>?_)⟩
 ·have k:=Xo k
  obtain ⟨n1,n2,n3⟩:=rm.k6 k
  refine ⟨⟨(0,e),⟨Nat.zero_le _,rfl,by rw [List.drop_zero,List.drop_zero]⟩,rfl,rfl⟩,?_⟩
  rintro ⟨j,f⟩ ⟨h1,h2,h3⟩
  dsimp only at h1 h2 h3 ⊢
  refine ab (fun c=>?_) (fun c=>?_)
  ·have c:=Xo c
   have hj:j < t.names.length:=by omega
   rw [aH t.names j (dfl .str) hj,aH L.1 j (dfl (.st .shape)) (by omega)] at h3
   simp only [dQ] at h3
   refine ⟨by omega,by omega,⟨by omega,by simp⟩,bJ (by omega) (by omega),(j+1,_),⟨by dsimp only;omega,?_,?_⟩,by dsimp only;omega,by dsimp only;omega,rfl⟩
   ·dsimp only;rw [List.length_append,h2];simp only [List.length_cons,List.length_nil];omega
   ·show bA (bA f [gy (t.names.getD j (dfl .str)) (L.1.getD j (dfl (.st .shape)))]) _=_
    rw [tL];exact h3
  ·have c:¬((j:Int) < (t.names.length:Int)):=fun q=>c (Xd q)
   have hj:j=t.names.length:=by omega
   have hf':f=bA e (dQ t.names L.1):=by
    rw [hj,List.drop_length] at h3
    simp only [dQ] at h3
    rw [ql] at h3
    exact h3
   have ob:=nx (j:=0) (w:=f.values.length) (by omega) (by omega)
   rw [hA6 h k]
   refine ⟨by omega,ob,?_,rfl,rfl,rfl,rfl,?_,?_,?_⟩
   ·simp only [List.length_cons,List.length_nil];omega
   ·rw [hf'];rfl
   ·rw [hf'];rfl
   ·rw [hf'];rfl
 have k6:¬t.kind=6:=fun q=>k6 (Xd q)
 refine ab (fun k=>?_) (fun k11=>?_)
 ·have k:=Xo k
  have n1:=rm.k11 k
  refine ⟨⟨0,⟨Nat.zero_le _,by rw [List.drop_zero]⟩,rfl⟩,?_⟩
  rintro j ⟨h1,h2⟩
  refine ab (fun c=>?_) (fun c=>?_)
  ·have c:=Xo c
   have hj:j < t.parts.length:=by omega
   rw [aH t.parts j (dfl (.st .term)) hj] at h2
   simp only [cv] at h2
   refine ⟨by omega,by omega,nx hj (Nat.le_add_right _ _),ab (fun f=>?_) (fun f=>?_)⟩
   ·have f:¬(az (aa n) (t.parts.getD j (dfl (.st .term))) (L.1.getD 0 ao) e).err=0:=ndF f
    rw [if_neg f] at h2
    rw [hA11 h k,←h2,if_neg f]
    exact ⟨by omega,rfl,rfl,rfl⟩
   ·have f:(az (aa n) (t.parts.getD j (dfl (.st .term))) (L.1.getD 0 ao) e).err=0:=ndT f
    rw [if_pos f] at h2
    exact ⟨bg hj ln,j+1,⟨by omega,h2⟩,by omega,by omega⟩
  ·have c:¬((j:Int) < (t.parts.length:Int)):=fun q=>c (Xd q)
   have hj:j=t.parts.length:=by omega
   rw [hj,List.drop_length] at h2
   rw [hA11 h k,←h2]
   exact ⟨rfl,rfl,rfl,rfl,rfl,rfl,rfl⟩
 have k11:¬t.kind=11:=fun q=>k11 (Xd q)
 refine ab (fun k=>?_) (fun k15=>?_)
 ·have k:=Xo k
  obtain ⟨n1,n2⟩:=rm.k15 k
  rw [hA15 h k]
  exact ⟨by omega,by omega,by omega,nx (by omega) (Nat.le_add_right _ _),rfl,rfl,rfl⟩
 have k15:¬t.kind=15:=fun q=>k15 (Xd q)
 refine ab (fun k=>?_) (fun k12=>?_)
 ·have k:=Xo k
  obtain ⟨n1,n2⟩:=rm.k12 k
  rw [hA12 h k]
  refine ⟨by omega,nx (by omega) (Nat.le_add_right _ _),ab (fun f=>?_) (fun f=>?_)⟩
  ·rw [if_neg (show ¬(az (aa n) (t.parts.getD 0 aB) (ofK 2) e).err=0 from ndF f)]
   exact ⟨by omega,rfl,rfl,rfl⟩
  rw [if_pos (show (az (aa n) (t.parts.getD 0 aB) (ofK 2) e).err=0 from ndT f)]
  refine ⟨by omega,by omega,nx (by omega) (Nat.le_add_right _ _),ab (fun f=>?_) (fun f=>?_)⟩
  ·rw [if_neg (show ¬(az (aa n) (t.parts.getD 1 aB) (L.1.getD 0 ao) e).err=0 from ndF f)]
   exact ⟨by omega,rfl,rfl,rfl⟩
  rw [if_pos (show (az (aa n) (t.parts.getD 1 aB) (L.1.getD 0 ao) e).err=0 from ndT f)]
  exact ⟨by omega,by omega,by omega,nx (by omega) (Nat.le_add_right _ _),rfl,rfl,rfl⟩
 have k12:¬t.kind=12:=fun q=>k12 (Xd q)
 have k:t.kind=13:=by omega
 obtain ⟨n1,n2,n3⟩:=rm.k13 k
 have el:((L.1.length:Int) - 1).toNat=L.1.length - 1:=by omega
 rw [el,hA13 h k]
 refine ⟨by omega,by omega,nx (by omega) (Nat.le_add_right _ _),ab (fun f=>?_) (fun f=>?_)⟩
 ·rw [if_neg (show ¬(az (aa n) (t.parts.getD 0 aB) ⟨7,[],[],t.names,L.1.take (L.1.length - 1)⟩ e).err=0 from ndF f)]
  exact ⟨by omega,rfl,rfl,rfl⟩
 rw [if_pos (show (az (aa n) (t.parts.getD 0 aB) ⟨7,[],[],t.names,L.1.take (L.1.length - 1)⟩ e).err=0 from ndT f)]
 refine ⟨by omega,⟨(0,ct),⟨by dsimp only;omega,rfl,rfl,by rw [List.drop_zero,List.drop_zero]⟩,rfl,by rw [hok],by rw [hok]⟩,?_⟩
 rintro ⟨j,f⟩ ⟨h1,h2,h3,h4⟩
 dsimp only at h1 h2 h3 h4 ⊢
 refine ab (fun c=>?_) (fun c=>?_)
 ·have c:=Xo c
  have hj:j+1 < t.parts.length:=by omega
  rw [aH t.parts (j+1) (dfl (.st .term)) hj,aH t.vars j (dfl .str) (by omega),aH L.1 j (dfl (.st .shape)) (by omega)] at h4
  simp only [eC] at h4
  have ob:=nx (j:=j+1) (w:=e.values.length+1) hj (by omega)
  refine ⟨by omega,by omega,by omega,by omega,⟨by omega,by simp⟩,?_,ab (fun f=>?_) (fun f=>?_)⟩
  ·rw [List.length_append];exact ob
  ·have f:=ndF f
   rw [←h4,if_neg (show ¬(az (aa n) (t.parts.getD (j+1) (dfl (.st .term))) (L.1.getD (L.1.length - 1) ao) (bA e [gy (t.vars.getD j (dfl .str)) (L.1.getD j (dfl (.st .shape)))])).err=0 from f)]
   exact ⟨by omega,rfl,rfl,rfl⟩
  ·have f:=ndT f
   rw [if_pos (show (az (aa n) (t.parts.getD (j+1) (dfl (.st .term))) (L.1.getD (L.1.length - 1) ao) (bA e [gy (t.vars.getD j (dfl .str)) (L.1.getD j (dfl (.st .shape)))])).err=0 from f)] at h4
   exact ⟨bg (by omega) ln,(j+1,ct),⟨by dsimp only;omega,rfl,rfl,h4⟩,by dsimp only;omega,by dsimp only;omega,f,by rw [yT f]⟩
 ·have c:¬((j:Int) < ((t.parts.length - 1:Nat):Int)):=fun q=>c (Xd q)
  have hj:j+1=t.parts.length:=by omega
  rw [hj,List.drop_length] at h4
  simp only [eC] at h4
  rw [←h4]
  exact ⟨by omega,rfl,h2,h3⟩
theorem zu (n:Nat) (t:Trm) (e:Envt) (ht:Wf (.st .term) t) (he:Wf (.st .env) e) (hz:szT t<=n+1) (hf:allT ai t=true) (hv:e.values.length+4096 *szT t<=100000000) :
  if decide (t.kind=(1:Int))=true then True/\ofK (1:Int)=(an (aa n) t e).1/\(0:Int)=(an (aa n) t e).2.err/\(0:Int)=(an (aa n) t e).2.pos/\True else if decide (t.kind=(2:Int))=true then True/\ofK (3:Int)=(an (aa n) t e).1/\(0:Int)=(an (aa n) t e).2.err/\(0:Int)=(an (aa n) t e).2.pos/\True else if decide (t.kind=(3:Int))=true then True/\ofK (2:Int)=(an (aa n) t e).1/\(0:Int)=(an (aa n) t e).2.err/\(0:Int)=(an (aa n) t e).2.pos/\True else (decide (t.kind=(4:Int))=(decide (t.kind=(3:Int)) || decide (t.kind=(4:Int)))/\t=t/\e=e/\t.kind=t.kind/\false=false/\false=false/\t=t/\e=e/\(0:Int)=(0:Int)/\aE UInt8=aE UInt8/\aE UInt8=aE UInt8/\(0:Int)=(0:Int)/\(0:Int)=(0:Int)/\True)/\if (decide (t.kind=(3:Int)) || decide (t.kind=(4:Int)))=true then True/\ofK (2:Int)=(an (aa n) t e).1/\(0:Int)=(an (aa n) t e).2.err/\(0:Int)=(an (aa n) t e).2.pos/\True else if decide (t.kind=(5:Int))=true then if (!Option.isSome (aU e.values t.pkg t.name))=true then True/\Option.elim (aU e.values t.pkg t.name) ao aM=(an (aa n) t e).1/\(110:Int)=(an (aa n) t e).2.err/\t.pos=(an (aa n) t e).2.pos/\True else True/\Option.elim (aU e.values t.pkg t.name) ao aM=(an (aa n) t e).1/\(0:Int)=(an (aa n) t e).2.err/\(0:Int)=(an (aa n) t e).2.pos/\True else if decide (t.kind=(7:Int))=true then ((0:Nat) < List.length t.parts/\szT t<=n+(1:Nat)/\allT ai t=true/\List.length e.values+(4096:Nat) *szT t<=(100000000:Nat))/\True/\(bH (aa n) t e).1=(an (aa n) t e).1/\(bH (aa n) t e).2.err=(an (aa n) t e).2.err/\(bH (aa n) t e).2.pos=(an (aa n) t e).2.pos/\True else if decide (t.kind=(8:Int))=true then (∃(x:Nat × List Shape),(x.1<=List.length t.parts/\List.length x.2=x.1/\ck (aa n) e t.parts=(x.2++(ck (aa n) e (List.drop x.1 t.parts)).1,(ck (aa n) e (List.drop x.1 t.parts)).2))/\(0:Int)=(↑x.1:Int)/\false=false/\t=t/\e=e/\t.kind=t.kind/\false=false/\false=false/\false=false/\false=false/\true=true/\t.parts=t.parts/\(↑(List.length t.parts):Int)=(↑(List.length t.parts):Int)/\(6:Int)=(6:Int)/\aE UInt8=aE UInt8/\aE UInt8=aE UInt8/\t.names=t.names/\x.2=[]/\List.length x.2=(0:Nat)/\t=t/\e=e/\(0:Int)=(0:Int)/\aE UInt8=aE UInt8/\aE UInt8=aE UInt8/\(0:Int)=(0:Int)/\(0:Int)=(0:Int)/\True)/\∀(x:Nat × List Shape),x.1<=List.length t.parts/\List.length x.2=x.1/\ck (aa n) e t.parts=(x.2++(ck (aa n) e (List.drop x.1 t.parts)).1,(ck (aa n) e (List.drop x.1 t.parts)).2)→if decide ((↑x.1:Int) < (↑(List.length t.parts):Int))=true then ((0:Int)<=(↑x.1:Int)/\(↑x.1:Int) < (↑(List.length t.parts):Int))/\(szT (List.getD t.parts (Int.toNat (↑x.1:Int)) (dfl (Ty.st SN.term)))<=n/\allT ai (List.getD t.parts (Int.toNat (↑x.1:Int)) (dfl (Ty.st SN.term)))=true/\List.length e.values+(4096:Nat) *szT (List.getD t.parts (Int.toNat (↑x.1:Int)) (dfl (Ty.st SN.term)))<=(100000000:Nat))/\if (!decide ((aa n (List.getD t.parts (Int.toNat (↑x.1:Int)) (dfl (Ty.st SN.term))) e).2.err=(0:Int)))=true then True/\(aa n (List.getD t.parts (Int.toNat (↑x.1:Int)) (dfl (Ty.st SN.term))) e).1=(an (aa n) t e).1/\(aa n (List.getD t.parts (Int.toNat (↑x.1:Int)) (dfl (Ty.st SN.term))) e).2.err=(an (aa n) t e).2.err
  /\(aa n (List.getD t.parts (Int.toNat (↑x.1:Int)) (dfl (Ty.st SN.term))) e).2.pos=(an (aa n) t e).2.pos/\True else (List.length x.2=List.length x.2/\(List.length x.2+List.length [(aa n (List.getD t.parts (Int.toNat (↑x.1:Int)) (dfl (Ty.st SN.term))) e).1]) *(88:Nat)<=(140737488355328:Nat))/\inR IntKind.i64 ((↑x.1:Int)+(1:Int))/\∃(y:Nat × List Shape),(y.1<=List.length t.parts/\List.length y.2=y.1/\ck (aa n) e t.parts=(y.2++(ck (aa n) e (List.drop y.1 t.parts)).1,(ck (aa n) e (List.drop y.1 t.parts)).2))/\List.length t.parts - y.1 < List.length t.parts - x.1/\(↑x.1:Int)+(1:Int)=(↑y.1:Int)/\false=false/\t=t/\e=e/\t.kind=t.kind/\false=false/\false=false/\false=false/\false=false/\true=true/\t.parts=t.parts/\(↑(List.length t.parts):Int)=(↑(List.length t.parts):Int)/\(6:Int)=(6:Int)/\aE UInt8=aE UInt8/\aE UInt8=aE UInt8/\t.names=t.names/\x.2++[(aa n (List.getD t.parts (Int.toNat (↑x.1:Int)) (dfl (Ty.st SN.term))) e).1]=y.2/\List.length (x.2++[(aa n (List.getD t.parts (Int.toNat (↑x.1:Int)) (dfl (Ty.st SN.term))) e).1])=List.length y.2/\t=t/\e=e/\(0:Int)=(0:Int)/\aE UInt8=aE UInt8/\aE UInt8=aE UInt8/\(0:Int)=(0:Int)/\(0:Int)=(0:Int)/\True else True/\(6:Int)=(an (aa n) t e).1.kind/\[]=(an (aa n) t e).1.pkg/\[]=(an (aa n) t e).1.name/\t.names=(an (aa n) t e).1.names/\x.2=(an (aa n) t e).1.parts/\(0:Int)=(an (aa n) t e).2.err/\(0:Int)=(an (aa n) t e).2.pos/\True else if decide (t.kind=(9:Int))=true then ((0:Nat) < List.length t.parts/\szT t<=n+(1:Nat)/\allT ai t=true/\List.length e.values+(4096:Nat) *szT t<=(100000000:Nat))/\True/\(bR (aa n) t e).1=(an (aa n) t e).1/\(bR (aa n) t e).2.err=(an (aa n) t e).2.err/\(bR (aa n) t e).2.pos=(an (aa n) t e).2.pos/\True else if decide (t.kind=(10:Int))=true then ((0:Int)<=(0:Int)/\(0:Int) < (↑(List.length t.parts):Int))/\(szT (List.getD t.parts (Int.toNat (0:Int)) (dfl (Ty.st SN.term)))<=n/\allT ai (List.getD t.parts (Int.toNat (0:Int)) (dfl (Ty.st SN.term)))=true/\List.length e.values+(4096:Nat) *szT (List.getD t.parts (Int.toNat (0:Int)) (dfl (Ty.st SN.term)))<=(100000000:Nat))/\True/\(7:Int)=(an (aa n) t e).1.kind/\[]=(an (aa n) t e).1.pkg/\[]=(an (aa n) t e).1.name/\[t.name]=(an (aa n) t e).1.names/\[(aa n (List.getD t.parts (Int.toNat (0:Int)) (dfl (Ty.st SN.term))) e).1]=(an (aa n) t e).1.parts/\(aa n (List.getD t.parts (Int.toNat (0:Int)) (dfl (Ty.st SN.term))) e).2.err=(an (aa n) t e).2.err/\(aa n (List.getD t.parts (Int.toNat (0:Int)) (dfl (Ty.st SN.term))) e).2.pos=(an (aa n) t e).2.pos/\True else if decide (t.kind=(14:Int))=true then ((0:Int)<=(0:Int)/\(0:Int) < (↑(List.length t.parts):Int))/\(szT (List.getD t.parts (Int.toNat (0:Int)) (dfl (Ty.st SN.term)))<=n/\allT ai (List.getD t.parts (Int.toNat (0:Int)) (dfl (Ty.st SN.term)))=true/\List.length e.values+(4096:Nat) *szT (List.getD t.parts (Int.toNat (0:Int)) (dfl (Ty.st SN.term)))<=(100000000:Nat))/\if (!decide ((aa n (List.getD t.parts (Int.toNat (0:Int)) (dfl (Ty.st SN.term))) e).2.err=(0:Int)))=true then True/\(aa n (List.getD t.parts (Int.toNat (0:Int)) (dfl (Ty.st SN.term))) e).1=(an (aa n) t e).1/\(aa n (List.getD t.parts (Int.toNat (0:Int)) (dfl (Ty.st SN.term))) e).2.err=(an (aa n) t e).2.err
  /\(aa n (List.getD t.parts (Int.toNat (0:Int)) (dfl (Ty.st SN.term))) e).2.pos=(an (aa n) t e).2.pos/\True else ((0:Int)<=(1:Int)/\(1:Int) < (↑(List.length t.parts):Int))/\(List.length e.values<=(1000000000:Nat)/\List.length [{pkg:=[],name:=t.name,shape:=AL.Shape.mk ((aa n (List.getD t.parts (Int.toNat (0:Int)) (dfl (Ty.st SN.term))) e).1.kind) ((aa n (List.getD t.parts (Int.toNat (0:Int)) (dfl (Ty.st SN.term))) e).1.pkg) ((aa n (List.getD t.parts (Int.toNat (0:Int)) (dfl (Ty.st SN.term))) e).1.name) ((aa n (List.getD t.parts (Int.toNat (0:Int)) (dfl (Ty.st SN.term))) e).1.names) ((aa n (List.getD t.parts (Int.toNat (0:Int)) (dfl (Ty.st SN.term))) e).1.parts):Bndg}]<=(1000:Nat))/\(szT (List.getD t.parts (Int.toNat (1:Int)) (dfl (Ty.st SN.term)))<=n/\allT ai (List.getD t.parts (Int.toNat (1:Int)) (dfl (Ty.st SN.term)))=true/\List.length (e.values++[{pkg:=[],name:=t.name,shape:=AL.Shape.mk ((aa n (List.getD t.parts (Int.toNat (0:Int)) (dfl (Ty.st SN.term))) e).1.kind) ((aa n (List.getD t.parts (Int.toNat (0:Int)) (dfl (Ty.st SN.term))) e).1.pkg) ((aa n (List.getD t.parts (Int.toNat (0:Int)) (dfl (Ty.st SN.term))) e).1.name) ((aa n (List.getD t.parts (Int.toNat (0:Int)) (dfl (Ty.st SN.term))) e).1.names) ((aa n (List.getD t.parts (Int.toNat (0:Int)) (dfl (Ty.st SN.term))) e).1.parts):Bndg}])+(4096:Nat) *szT (List.getD t.parts (Int.toNat (1:Int)) (dfl (Ty.st SN.term)))<=(100000000:Nat))/\True/\(aa n (List.getD t.parts (Int.toNat (1:Int)) (dfl (Ty.st SN.term))) (bA e [{pkg:=[],name:=t.name,shape:=AL.Shape.mk ((aa n (List.getD t.parts (Int.toNat (0:Int)) (dfl (Ty.st SN.term))) e).1.kind) ((aa n (List.getD t.parts (Int.toNat (0:Int)) (dfl (Ty.st SN.term))) e).1.pkg) ((aa n (List.getD t.parts (Int.toNat (0:Int)) (dfl (Ty.st SN.term))) e).1.name) ((aa n (List.getD t.parts (Int.toNat (0:Int)) (dfl (Ty.st SN.term))) e).1.names) ((aa n (List.getD t.parts (Int.toNat (0:Int)) (dfl (Ty.st SN.term))) e).1.parts):Bndg}])).1=(an (aa n) t e).1/\(aa n (List.getD t.parts (Int.toNat (1:Int)) (dfl (Ty.st SN.term))) (bA e [{pkg:=[],name:=t.name,shape:=AL.Shape.mk ((aa n (List.getD t.parts (Int.toNat (0:Int)) (dfl (Ty.st SN.term))) e).1.kind) ((aa n (List.getD t.parts (Int.toNat (0:Int)) (dfl (Ty.st SN.term))) e).1.pkg) ((aa n (List.getD t.parts (Int.toNat (0:Int)) (dfl (Ty.st SN.term))) e).1.name) ((aa n (List.getD t.parts (Int.toNat (0:Int)) (dfl (Ty.st SN.term))) e).1.names) ((aa n (List.getD t.parts (Int.toNat (0:Int)) (dfl (Ty.st SN.term))) e).1.parts):Bndg}])).2.err=(an (aa n) t e).2.err/\(aa n (List.getD t.parts (Int.toNat (1:Int)) (dfl (Ty.st SN.term))) (bA e [{pkg:=[],name:=t.name,shape:=AL.Shape.mk ((aa n (List.getD t.parts (Int.toNat (0:Int)) (dfl (Ty.st SN.term))) e).1.kind) ((aa n (List.getD t.parts (Int.toNat (0:Int)) (dfl (Ty.st SN.term))) e).1.pkg) ((aa n (List.getD t.parts (Int.toNat (0:Int)) (dfl (Ty.st SN.term))) e).1.name) ((aa n (List.getD t.parts (Int.toNat (0:Int)) (dfl (Ty.st SN.term))) e).1.names) ((aa n (List.getD t.parts (Int.toNat (0:Int)) (dfl (Ty.st SN.term))) e).1.parts):Bndg}])).2.pos=(an (aa n) t e).2.pos/\True else if decide (t.kind=(16:Int))=true then ((0:Nat) < List.length t.parts/\szT t<=n+(1:Nat)/\allT ai t=true/\List.length e.values+(4096:Nat) *szT t<=(100000000:Nat))/\True/\(cE (aa n) t e).1=(an (aa n) t e).1/\(cE (aa n) t e).2.err=(an (aa n) t e).2.err/\(cE (aa n) t e).2.pos=(an (aa n) t e).2.pos/\True else if decide (t.kind=(17:Int))=true then ((0:Nat) < List.length t.parts/\szT t<=n+(1:Nat)
  /\allT ai t=true/\List.length e.values+(4096:Nat) *szT t<=(100000000:Nat))/\True/\(cE (aa n) t e).1=(an (aa n) t e).1/\(cE (aa n) t e).2.err=(an (aa n) t e).2.err/\(cE (aa n) t e).2.pos=(an (aa n) t e).2.pos/\True else ((t.kind=(6:Int)∨t.kind=(11:Int)∨t.kind=(12:Int)∨t.kind=(13:Int)∨t.kind=(15:Int))/\szT t<=n+(1:Nat)/\allT ai t=true/\List.length e.values+(4096:Nat) *szT t<=(100000000:Nat))/\True/\(aD (aa n) t e).1=(an (aa n) t e).1/\(aD (aa n) t e).2.err=(an (aa n) t e).2.err/\(aD (aa n) t e).2.pos=(an (aa n) t e).2.pos/\True:=by
 have rm:=xz hf
 have ln:=ht.term_parts.len
 have ps:=tM t
 have e0:Int.toNat 0=0:=rfl
 have e1:Int.toNat 1=1:=rfl
 have et:∀s:Shape,AL.Shape.mk s.kind s.pkg s.name s.names s.parts=s:=fun s=>by cases s;rfl
 simp only [e0,e1,et,Int.toNat_natCast,eq_self,true_and,and_true]
 have nx:∀{j w:Nat},j < t.parts.length→w<=e.values.length+4096→szT (t.parts.getD j (dfl (.st .term)))<=n/\allT ai (t.parts.getD j (dfl (.st .term)))=true/\w+4096 *szT (t.parts.getD j (dfl (.st .term)))<=100000000:=fun hj hw=>rM hz hf hv _ hj hw
 refine ab (fun k=>?_) (fun k1=>?_)
 ·have k:=Xo k
  rw [show an (aa n) t e=(ofK 1,ct) by unfold an;simp [k]]
  exact ⟨rfl,rfl,rfl⟩
 have k1:¬t.kind=1:=fun q=>k1 (Xd q)
 refine ab (fun k=>?_) (fun k2=>?_)
 ·have k:=Xo k
  rw [show an (aa n) t e=(ofK 3,ct) by unfold an;simp [k]]
  exact ⟨rfl,rfl,rfl⟩
 have k2:¬t.kind=2:=fun q=>k2 (Xd q)
 refine ab (fun k=>?_) (fun k3=>?_)
 ·have k:=Xo k
  rw [show an (aa n) t e=(ofK 2,ct) by unfold an;simp [k]]
  exact ⟨rfl,rfl,rfl⟩
 have k3:¬t.kind=3:=fun q=>k3 (Xd q)
 refine ⟨by rw [Xf k3,Bool.false_or],ab (fun k=>?_) (fun k4=>?_)⟩
 ·have k:t.kind=4:=by rw [Xf k3,Bool.false_or] at k;exact Xo k
  rw [show an (aa n) t e=(ofK 2,ct) by unfold an;simp [k]]
  exact ⟨rfl,rfl,rfl⟩
 have k4:¬t.kind=4:=fun q=>k4 (by rw [Xd q,Bool.or_true])
 refine ab (fun k=>?_) (fun k5=>?_)
 ·have k:=Xo k
  have hN:aU e.values t.pkg t.name=none→an (aa n) t e=(ao,⟨110,t.pos⟩):=fun g=>by unfold an;simp [k,g]
  have hS:∀s,aU e.values t.pkg t.name=some s→an (aa n) t e=(aM s,ct):=fun s g=>by unfold an;simp [k,g]
  cases g:aU e.values t.pkg t.name with
  | none=>rw [hN g];exact ab (fun _=>⟨rfl,rfl,rfl⟩) (fun q=>absurd rfl q)
  | some s=>rw [hS s g];exact ab (fun q=>absurd q Bool.false_ne_true) (fun _=>⟨rfl,rfl,rfl⟩)
 have k5:¬t.kind=5:=fun q=>k5 (Xd q)
 refine ab (fun k=>?_) (fun k7=>?_)
 ·have k:=Xo k
  rw [show an (aa n) t e=bH (aa n) t e by unfold an;simp [k]]
  exact ⟨⟨rm.k7 k,hz,hf,hv⟩,rfl,rfl,rfl⟩
 have k7:¬t.kind=7:=fun q=>k7 (Xd q)
 refine ab (fun k=>?_) (fun k8=>?_)
 ·have k:=Xo k
  have hP:an (aa n) t e=if (ck (aa n) e t.parts).2.2.err=0 then (⟨6,[],[],t.names,(ck (aa n) e t.parts).1⟩,ct) else (ck (aa n) e t.parts).2:=by unfold an;simp [k]
  refine ⟨⟨(0,[]),⟨Nat.zero_le _,rfl,by rw [List.drop_zero];rfl⟩,rfl,rfl,rfl⟩,?_⟩
  rintro ⟨j,q⟩ ⟨h1,h2,h3⟩
  dsimp only at h1 h2 h3 ⊢
  refine ab (fun c=>?_) (fun c=>?_)
  ·have c:=Xo c
   have hj:j < t.parts.length:=by omega
   rw [aH t.parts j (dfl (.st .term)) hj] at h3
   simp only [ck] at h3
   refine ⟨by omega,nx hj (Nat.le_add_right _ _),ab (fun f=>?_) (fun f=>?_)⟩
   ·have f:=ndF f
    rw [if_neg f] at h3
    rw [hP,h3,if_neg (show ¬(q++[],aa n (t.parts.getD j (dfl (.st .term))) e).2.2.err=0 from f)]
    exact ⟨rfl,rfl,rfl⟩
   ·have f:=ndT f
    rw [if_pos f] at h3
    refine ⟨by simp only [List.length_cons,List.length_nil];omega,bg hj ln,(j+1,q++[_]),⟨by dsimp only;omega,by simp [h2],?_⟩,by dsimp only;omega,by dsimp only;omega,rfl,rfl⟩
    dsimp only
    rw [h3,List.append_assoc]
    rfl
  ·have c:¬((j:Int) < (t.parts.length:Int)):=fun q=>c (Xd q)
   have hj:j=t.parts.length:=by omega
   rw [hj,List.drop_length] at h3
   simp only [ck,List.append_nil] at h3
   rw [hP,h3]
   exact ⟨rfl,rfl,rfl,rfl,rfl,rfl,rfl⟩
 have k8:¬t.kind=8:=fun q=>k8 (Xd q)
 refine ab (fun k=>?_) (fun k9=>?_)
 ·have k:=Xo k
  rw [show an (aa n) t e=bR (aa n) t e by unfold an;simp [k]]
  have:=rm.k1 (by omega)
  exact ⟨⟨by omega,hz,hf,hv⟩,rfl,rfl,rfl⟩
 have k9:¬t.kind=9:=fun q=>k9 (Xd q)
 refine ab (fun k=>?_) (fun k10=>?_)
 ·have k:=Xo k
  rw [show an (aa n) t e=(⟨7,[],[],[t.name],[(aa n (t.parts.getD 0 aB) e).1]⟩,(aa n (t.parts.getD 0 aB) e).2) by unfold an;simp [k]]
  have:=rm.k1 (by omega)
  exact ⟨by omega,nx (by omega) (Nat.le_add_right _ _),rfl,rfl,rfl,rfl,rfl,rfl,rfl⟩
 have k10:¬t.kind=10:=fun q=>k10 (Xd q)
 refine ab (fun k=>?_) (fun k14=>?_)
 ·have k:=Xo k
  rw [show an (aa n) t e=(if (aa n (t.parts.getD 0 aB) e).2.err=0 then aa n (t.parts.getD 1 aB) (bA e [gy t.name (aa n (t.parts.getD 0 aB) e).1]) else aa n (t.parts.getD 0 aB) e) by unfold an;simp [k]]
  have:=rm.k14 k
  refine ⟨by omega,nx (by omega) (Nat.le_add_right _ _),ab (fun f=>?_) (fun f=>?_)⟩
  ·rw [if_neg (show ¬(aa n (t.parts.getD 0 aB) e).2.err=0 from ndF f)]
   exact ⟨rfl,rfl,rfl⟩
  ·rw [if_pos (show (aa n (t.parts.getD 0 aB) e).2.err=0 from ndT f)]
   refine ⟨by omega,⟨by omega,by simp⟩,?_,rfl,rfl,rfl⟩
   rw [List.length_append]
   exact nx (by omega) (by simp)
 have k14:¬t.kind=14:=fun q=>k14 (Xd q)
 refine ab (fun k=>?_) (fun k16=>?_)
 ·have k:=Xo k
  rw [show an (aa n) t e=cE (aa n) t e by unfold an;simp [k]]
  have:=rm.k1 (by omega)
  exact ⟨⟨by omega,hz,hf,hv⟩,rfl,rfl,rfl⟩
 have k16:¬t.kind=16:=fun q=>k16 (Xd q)
 refine ab (fun k=>?_) (fun k17=>?_)
 ·have k:=Xo k
  rw [show an (aa n) t e=cE (aa n) t e by unfold an;simp [k]]
  have:=rm.k1 (by omega)
  exact ⟨⟨by omega,hz,hf,hv⟩,rfl,rfl,rfl⟩
 have k17:¬t.kind=17:=fun q=>k17 (Xd q)
 have ka:=rm.all
 rw [show an (aa n) t e=aD (aa n) t e by unfold an;simp [k1,k2,k3,k4,k5,k7,k8,k9,k10,k14,k16,k17]]
 exact ⟨⟨by omega,hz,hf,hv⟩,rfl,rfl,rfl⟩
theorem Bu (t:Trm) (e:Envt) (ht:Wf (.st .term) t) (he:Wf (.st .env) e) (ho:fewT t=true/\e.values.length<=1000000) :
  fewT t=true/\if (!decide (bF t=(0:Int)))=true then True/\(0:Int)=(bV t e).1.kind/\[]=(bV t e).1.pkg/\[]=(bV t e).1.name/\(bV t e).1.names=[]/\(bV t e).1.parts=[]/\bF t=(bV t e).2.err/\(0:Int)=(bV t e).2.pos/\True else (szT t<=szT t/\allT ai t=true/\List.length e.values+(4096:Nat) *szT t<=(100000000:Nat))/\True/\(aa (szT t) t e).1=(bV t e).1/\(aa (szT t) t e).2.err=(bV t e).2.err/\(aa (szT t) t e).2.pos=(bV t e).2.pos/\True:=by
 obtain ⟨h1,h2⟩:=ho
 refine ⟨h1,ab (fun h=>?_) (fun h=>?_)⟩
 ·have h:=ndF h
  rw [show bV t e=(ao,⟨bF t,0⟩) by unfold bV;rw [if_neg h]]
  exact ⟨trivial,rfl,rfl,rfl,rfl,rfl,rfl,rfl,trivial⟩
 ·have h:=ndT h
  rw [show bV t e=aa (szT t) t e by unfold bV;rw [if_pos h]]
  have:=(oU h).1
  exact ⟨⟨Nat.le_refl _,iF h,by omega⟩,trivial,rfl,rfl,rfl,trivial⟩
theorem wi (t:Trm) (ht:Wf (.st .term) t) :
  (szT t<=szT t/\(0:Int)<=(300:Int)/\(300:Int)<=(1000000:Int))/\True/\decide (dj t (300:Int)<=(300:Int))=decide (dj t (300:Int)<=(300:Int))/\True:=by
 exact ⟨⟨Nat.le_refl _,by decide,by decide⟩,trivial,rfl,trivial⟩
theorem oX (G:Trm→Envt→Shape × Flt) (N:Nat) (t:Trm) (e:Envt) (m:Str) (ht:Wf (.st .term) t) (he:Wf (.st .env) e) (hf:fewT t=true) (hm:Wf .str m) (hN:sz (G t e).1<=N) (hl:bF (mL m t)=0→G (mL m t) e=G t e) (hc:bF (dF t)=0→¬((G (dF t) e).2.err=3∨(G (dF t) e).2.err=91)→G (dF t) e=G t e) :
  if (!iE e)=true then True/\true=true/\True else if (!decide (dj t (300:Int)<=(300:Int)))=true then True/\true=true/\True else (fewT t=true/\List.length e.values<=(1000000:Nat))/\fewT {kind:=(14:Int),pkg:=[],name:=m,n:=(0:Int),names:=[],vars:=[],shapes:=[],parts:=[t,{kind:=(5:Int),pkg:=[],name:=m,n:=(0:Int),names:=[],vars:=[],shapes:=[],parts:=[],pos:=(0:Int):Trm}],pos:=(0:Int):Trm}=true/\if (!decide (bF {kind:=(14:Int),pkg:=[],name:=m,n:=(0:Int),names:=[],vars:=[],shapes:=[],parts:=[t,{kind:=(5:Int),pkg:=[],name:=m,n:=(0:Int),names:=[],vars:=[],shapes:=[],parts:=[],pos:=(0:Int):Trm}],pos:=(0:Int):Trm}=(0:Int)))=true then True/\true=true/\True else fewT {kind:=(7:Int),pkg:=[],name:=[],n:=(0:Int),names:=[],vars:=[],shapes:=[],parts:=[{kind:=(6:Int),pkg:=[],name:=[],n:=(0:Int),names:=[],vars:=[],shapes:=[],parts:=[t],pos:=(0:Int):Trm}],pos:=(0:Int):Trm}=true/\if (!decide (bF {kind:=(7:Int),pkg:=[],name:=[],n:=(0:Int),names:=[],vars:=[],shapes:=[],parts:=[{kind:=(6:Int),pkg:=[],name:=[],n:=(0:Int),names:=[],vars:=[],shapes:=[],parts:=[t],pos:=(0:Int):Trm}],pos:=(0:Int):Trm}=(0:Int)))=true then True/\true=true/\True else (fewT {kind:=(14:Int),pkg:=[],name:=m,n:=(0:Int),names:=[],vars:=[],shapes:=[],parts:=[t,{kind:=(5:Int),pkg:=[],name:=m,n:=(0:Int),names:=[],vars:=[],shapes:=[],parts:=[],pos:=(0:Int):Trm}],pos:=(0:Int):Trm}=true/\List.length e.values<=(1000000:Nat))/\(fewT {kind:=(7:Int),pkg:=[],name:=[],n:=(0:Int),names:=[],vars:=[],shapes:=[],parts:=[{kind:=(6:Int),pkg:=[],name:=[],n:=(0:Int),names:=[],vars:=[],shapes:=[],parts:=[t],pos:=(0:Int):Trm}],pos:=(0:Int):Trm}=true/\List.length e.values<=(1000000:Nat))/\if decide ((G {kind:=(7:Int),pkg:=[],name:=[],n:=(0:Int),names:=[],vars:=[],shapes:=[],parts:=[{kind:=(6:Int),pkg:=[],name:=[],n:=(0:Int),names:=[],vars:=[],shapes:=[],parts:=[t],pos:=(0:Int):Trm}],pos:=(0:Int):Trm} e).2.err=(3:Int))=true then sz (G t e).1<=N/\if eqS (G t e).1 (G {kind:=(14:Int),pkg:=[],name:=m,n:=(0:Int),names:=[],vars:=[],shapes:=[],parts:=[t,{kind:=(5:Int),pkg:=[],name:=m,n:=(0:Int),names:=[],vars:=[],shapes:=[],parts:=[],pos:=(0:Int):Trm}],pos:=(0:Int):Trm} e).1=true then if (decide ((G t e).2.err=(G {kind:=(14:Int),pkg:=[],name:=m,n:=(0:Int),names:=[],vars:=[],shapes:=[],parts:=[t,{kind:=(5:Int),pkg:=[],name:=m,n:=(0:Int),names:=[],vars:=[],shapes:=[],parts:=[],pos:=(0:Int):Trm}],pos:=(0:Int):Trm} e).2.err) && (decide ((G t e).2.pos=(G {kind:=(14:Int),pkg:=[],name:=m,n:=(0:Int),names:=[],vars:=[],shapes:=[],parts:=[t,{kind:=(5:Int),pkg:=[],name:=m,n:=(0:Int),names:=[],vars:=[],shapes:=[],parts:=[],pos:=(0:Int):Trm}],pos:=(0:Int):Trm} e).2.pos) && true))=true then True/\true=true/\True else True/\false=true/\True else True/\false=true/\True else if decide ((G {kind:=(7:Int),pkg:=[],name:=[],n:=(0:Int),names:=[],vars:=[],shapes:=[],parts:=[{kind:=(6:Int),pkg:=[],name:=[],n:=(0:Int),names:=[],vars:=[],shapes:=[],parts:=[t],pos:=(0:Int):Trm}],pos:=(0:Int):Trm} e).2.err=(91:Int))=true then sz (G t e).1<=N
  /\if eqS (G t e).1 (G {kind:=(14:Int),pkg:=[],name:=m,n:=(0:Int),names:=[],vars:=[],shapes:=[],parts:=[t,{kind:=(5:Int),pkg:=[],name:=m,n:=(0:Int),names:=[],vars:=[],shapes:=[],parts:=[],pos:=(0:Int):Trm}],pos:=(0:Int):Trm} e).1=true then if (decide ((G t e).2.err=(G {kind:=(14:Int),pkg:=[],name:=m,n:=(0:Int),names:=[],vars:=[],shapes:=[],parts:=[t,{kind:=(5:Int),pkg:=[],name:=m,n:=(0:Int),names:=[],vars:=[],shapes:=[],parts:=[],pos:=(0:Int):Trm}],pos:=(0:Int):Trm} e).2.err) && (decide ((G t e).2.pos=(G {kind:=(14:Int),pkg:=[],name:=m,n:=(0:Int),names:=[],vars:=[],shapes:=[],parts:=[t,{kind:=(5:Int),pkg:=[],name:=m,n:=(0:Int),names:=[],vars:=[],shapes:=[],parts:=[],pos:=(0:Int):Trm}],pos:=(0:Int):Trm} e).2.pos) && true))=true then True/\true=true/\True else True/\false=true/\True else True/\false=true/\True else sz (G t e).1<=N/\if eqS (G t e).1 (G {kind:=(14:Int),pkg:=[],name:=m,n:=(0:Int),names:=[],vars:=[],shapes:=[],parts:=[t,{kind:=(5:Int),pkg:=[],name:=m,n:=(0:Int),names:=[],vars:=[],shapes:=[],parts:=[],pos:=(0:Int):Trm}],pos:=(0:Int):Trm} e).1=true then if (decide ((G t e).2.err=(G {kind:=(14:Int),pkg:=[],name:=m,n:=(0:Int),names:=[],vars:=[],shapes:=[],parts:=[t,{kind:=(5:Int),pkg:=[],name:=m,n:=(0:Int),names:=[],vars:=[],shapes:=[],parts:=[],pos:=(0:Int):Trm}],pos:=(0:Int):Trm} e).2.err) && (decide ((G t e).2.pos=(G {kind:=(14:Int),pkg:=[],name:=m,n:=(0:Int),names:=[],vars:=[],shapes:=[],parts:=[t,{kind:=(5:Int),pkg:=[],name:=m,n:=(0:Int),names:=[],vars:=[],shapes:=[],parts:=[],pos:=(0:Int):Trm}],pos:=(0:Int):Trm} e).2.pos) && true))=true then sz (G t e).1<=N/\if eqS (G t e).1 (G {kind:=(7:Int),pkg:=[],name:=[],n:=(0:Int),names:=[],vars:=[],shapes:=[],parts:=[{kind:=(6:Int),pkg:=[],name:=[],n:=(0:Int),names:=[],vars:=[],shapes:=[],parts:=[t],pos:=(0:Int):Trm}],pos:=(0:Int):Trm} e).1=true then if (decide ((G t e).2.err=(G {kind:=(7:Int),pkg:=[],name:=[],n:=(0:Int),names:=[],vars:=[],shapes:=[],parts:=[{kind:=(6:Int),pkg:=[],name:=[],n:=(0:Int),names:=[],vars:=[],shapes:=[],parts:=[t],pos:=(0:Int):Trm}],pos:=(0:Int):Trm} e).2.err) && (decide ((G t e).2.pos=(G {kind:=(7:Int),pkg:=[],name:=[],n:=(0:Int),names:=[],vars:=[],shapes:=[],parts:=[{kind:=(6:Int),pkg:=[],name:=[],n:=(0:Int),names:=[],vars:=[],shapes:=[],parts:=[t],pos:=(0:Int):Trm}],pos:=(0:Int):Trm} e).2.pos) && true))=true then True/\true=true/\True else True/\false=true/\True else True/\false=true/\True else True/\false=true/\True else True/\false=true/\True:=by
 refine ab (fun _=>⟨trivial,rfl,trivial⟩) (fun h1=>ab (fun _=>⟨trivial,rfl,trivial⟩) (fun h2=>?_))
 have l1:=vY h1
 obtain ⟨f1,f2,_⟩:=Ct (m:=m) hf
 rw [show (⟨14,[],m,0,[],[],[],[t,⟨5,[],m,0,[],[],[],[],0⟩],0⟩:Trm)=mL m t from rfl,show (⟨7,[],[],0,[],[],[],[⟨6,[],[],0,[],[],[],[t],0⟩],0⟩:Trm)=dF t from rfl]
 refine ⟨⟨hf,by omega⟩,f1,ab (fun _=>⟨trivial,rfl,trivial⟩) (fun c1=>⟨f2,ab (fun _=>⟨trivial,rfl,trivial⟩) (fun c2=>?_)⟩)⟩
 have gl:=hl (ndT c1)
 have gc:=hc (ndT c2)
 rw [gl]
 revert gc
 generalize G (dF t) e=y
 intro gc
 refine ⟨⟨f1,by omega⟩,⟨f2,by omega⟩,ab (fun k=>?_) (fun k3=>ab (fun k=>?_) (fun k91=>?_))⟩
 ·exact ⟨hN,ab (fun _=>ab (fun _=>⟨trivial,rfl,trivial⟩) (fun q=>absurd (nc _ _) q)) (fun q=>absurd (eqS_refl _) q)⟩
 ·exact ⟨hN,ab (fun _=>ab (fun _=>⟨trivial,rfl,trivial⟩) (fun q=>absurd (nc _ _) q)) (fun q=>absurd (eqS_refl _) q)⟩
 ·rw [gc (fun q=>q.elim (fun q=>k3 (Xd q)) (fun q=>k91 (Xd q)))]
  exact ⟨hN,ab (fun _=>ab (fun _=>⟨hN,ab (fun _=>ab (fun _=>⟨trivial,rfl,trivial⟩) (fun q=>absurd (nc _ _) q)) (fun q=>absurd (eqS_refl _) q)⟩) (fun q=>absurd (nc _ _) q)) (fun q=>absurd (eqS_refl _) q)⟩
end Go.AL.Seat
end
section
open Go Go.AL Go.Proofs Go.Shelf Go.Pd
namespace Go.AL.Seat
open Go.Proofs.Tryz
variable [Tabs]
variable [SeatLaid]
theorem lM:aj prog 123 (p1 (.int .u8) fun c=>.ret (.bool (cD c))):=
 bY (ee func123) fun c _ _=>g0 sn a0 func123 (B6 c)
theorem lN:aj prog 124 (p1 (.int .u8) fun c=>.ret (.bool (cO c))):=
 bY (ee func124) fun c _ _=>g0 sn a0 func124 (B7 c)
theorem zw:aj prog 127 (p1 (.int .u8) fun c=>.ret (.bool (jh c))):=
 bY (ee func127) fun c _ _=>g0 sn a0 func127 (B8 c)
theorem tV:aj prog 125 (p1 (.int .u8) fun c=>.ret (.bool (ep c))):=
 bY (ee func125) fun c _ _=>g0 (sc lM (sc lN (sc zw sn))) a0 func125 (Cu c)
theorem wj:aj prog 166 (pf .str 123 fun s=>.ret (.bool (bU cD s))):=
 mj (ee func166) fun s hs _=>g0 (sc lM (sc lN (sc tV sn))) ⟨[(4,fun S0=>⟨Nat,fun k=>k<=s.length/\bU cD s=(s.drop k).all fun c=>ep (bI c),fun k=>[(22,.int .i64 k)],fun _=>[],fun k=>s.length - k⟩)],[],[]⟩ func166 (yY s hs)
theorem wk:aj prog 166 (pf .str 124 fun s=>.ret (.bool (bU cO s))):=
 mj (ee func166) fun s hs _=>g0 (sc lM (sc lN (sc tV sn))) ⟨[(4,fun S0=>⟨Nat,fun k=>k<=s.length/\bU cO s=(s.drop k).all fun c=>ep (bI c),fun k=>[(22,.int .i64 k)],fun _=>[],fun k=>s.length - k⟩)],[],[]⟩ func166 (yZ s hs)
theorem Bv:aj prog 126 (p1 .str fun s=>.ret (.bool (dr s))):=
 bY (ee func126) fun s _ _=>g0 sn a0 func126 (Cv s)
theorem l0:aj prog 100 (p1 .str fun s=>.ret (.bool (aY s))):=
 bY (ee func100) fun s _ _=>g0 (sc wj (sc Bv sn)) a0 func100 (Cw s)
theorem qp:aj prog 103 (p1 .str fun s=>.ret (.bool (ev s))):=
 bY (ee func103) fun s _ _=>g0 (sc wk sn) a0 func103 (B9 s)
theorem oY:aj prog 145 (p2 (.lst .str) .str fun a v=>.ret (.int .i64 (bO a v 0))):=
 cJ (ee func145) fun a v ha _ _=>g0 sn ⟨[(2,fun S0=>⟨Nat,fun k=>k<=a.length/\bO a v 0=bO (a.drop k) v k,fun k=>[(8,.int .i64 k)],fun _=>[],fun k=>a.length - k⟩)],[],[]⟩ func145 (z6 a v ha)
theorem zx:aj prog 110 (p1 .str fun s=>.ret (.bool (gB s))):=
 bY (ee func110) fun s _ _=>g0 sn a0 func110 (Ba s)
theorem oZ:aj prog 168 (p1 (.lst .str) fun a=>⟨none,none,.fn 226 [.ptr 1 0],[(1,.box (.lst .str a none))]⟩):=
 bY (ee func168) fun a _ _=>g0 sn a0 func168 (z7 a)
theorem zy:aj prog 109 (p1 (.st .shape) fun s=>⟨some (s.parts.length *16<=140737488355328),none,.bool (cr s),[]⟩):=
 bY (ee func109) fun s hs ho=>g0 (sc l0 (sc oZ (sc (km) (sc (jk) sn)))) ⟨[(4,fun S0=>⟨Nat,fun k=>k<=s.names.length/\s.names.length=s.parts.length/\cr s=(((s.names.drop k).all aY) && decide s.names.Nodup),fun k=>[(16,.int .i64 k)],fun _=>[],fun k=>s.names.length - k⟩)],[],[]⟩ func109 (Bb s hs (ho _ rfl))
theorem Bw:aj prog 60 (p1 (.st .shape) fun s=>⟨some (s.parts.length *16<=140737488355328),none,.bool (aq s),[]⟩):=
 bY (ee func60) fun s hs ho=>g0 (sc zy (sc qp (sc l0 (sc zx sn)))) a0 func60 (Cx s hs (ho _ rfl))
theorem p7:aC prog 40:=ee func40
theorem pM (n:Nat) (s:AL.Shape) (hs:Wf (.st .shape) s) (hn:sz s<=n+1) (hb:n<=1000000) (hA:aj prog 40 (pf (.st .shape) 60 fun s=>⟨some (sz s<=n),none,.bool (allS aq s),[]⟩)):ay prog 40 [.st .shape s,.fn 60 []] [] (.ret (.bool (allS aq s))):=
 g0 (sc Bw (sc (hA) sn)) ⟨[(4,fun S0=>⟨Nat,fun k=>k<=s.parts.length/\allS aq s=allL aq (s.parts.drop k),fun k=>[(14,.int .i64 k)],fun _=>[],fun k=>s.parts.length - k⟩)],[],[]⟩ func40 (vZ n s hs hn hb)
theorem tW:∀n:Nat,n<=1000000→aj prog 40 (pf (.st .shape) 60 fun s=>⟨some (sz s<=n),none,.bool (allS aq s),[]⟩):=by
 intro n
 induction n with
 | zero=>exact fun _=>mj p7 fun a hs ho=>absurd (ho _ rfl) (by have:=eP a;omega)
 | succ n ih=>exact fun hb=>mj p7 fun a hs ho=>pM n a hs (ho _ rfl) (by omega) (ih (by omega))
theorem qq:aC prog 42:=ee func42
theorem rR (n:Nat) (s:AL.Shape) (hs:Wf (.st .shape) s) (hn:sz s<=n+1) (ho:allS cU s=true) (hb:n<=1000000) (hA:aj prog 42 (p1 (.st .shape) fun s=>⟨some (sz s<=n/\allS cU s=true),none,.st .shape (sortedS s),[]⟩)):ay prog 42 [.st .shape s] [] (.ret (.st .shape (sortedS s))):=
 g0 (sc (kS) (sc (hA) sn)) ⟨[(4,fun S0=>⟨Nat,fun k=>k<=s.parts.length,fun k=>[(21,.int .i64 k)],fun k=>[(18,.box (.row (.int .i64) (bD k++List.replicate (s.parts.length - k) 0)))],fun k=>s.parts.length - k⟩),(11,fun S0=>⟨Nat,fun k=>k<=s.parts.length,fun k=>[(38,.int .i64 k)],fun k=>[(3,.box (.agg [.int .i64 s.kind,.str s.pkg,.str s.name,.lst .str (if s.names=[] then [] else (ak s |>.take k).map (bK s.names)) (some 701),.lst (.st .shape) ((ak s |>.take k).map fun i=>(sortedL s.parts).getD i.toNat dt) (some 702)])),(18,.box (.row (.int .i64) (ak s))),(701,.tail .str (if s.names=[] then [] else (ak s |>.take k).map (bK s.names)).length),(702,.tail (.st .shape) k)],fun k=>s.parts.length - k⟩)],[],[]⟩ func42 (z8 n s hs hn ho hb)
theorem wm:∀n:Nat,n<=1000000→aj prog 42 (p1 (.st .shape) fun s=>⟨some (sz s<=n/\allS cU s=true),none,.st .shape (sortedS s),[]⟩):=by
 intro n
 induction n with
 | zero=>exact fun _=>bY qq fun a hs ho=>absurd (ho _ rfl).1 (by have:=eP a;omega)
 | succ n ih=>exact fun hb=>bY qq fun a hs ho=>rR n a hs (ho _ rfl).1 (ho _ rfl).2 (by omega) (ih (by omega))
theorem fN:aj prog 39 (p1 (.st .shape) fun s=>.ret (.int .i64 (ax s))):=
 bY (ee func39) fun s _ _=>g0 (sc (qh) (sc (tW 400 (by decide)) sn)) a0 func39 (Bc s)
theorem jo:aj prog 24 (p1 (.st .shape) fun s=>.ret (.st .shape (aM s))):=
 bY (ee func24) fun s _ _=>g0 (sc fN (sc (wm 400 (by decide)) sn)) a0 func24 (Cy s)
theorem xB:aC prog 33:=ee func33
theorem wo (n:Nat) (s:AL.Shape) (m:Int) (hs:Wf (.st .shape) s) (ho:sz s<=n+1/\0<=m/\m<=1000000) (hA:aj prog 33 (p2 (.st .shape) (.int .i64) fun s m=>⟨some (sz s<=n/\0<=m/\m<=1000000),none,.int .i64 (sizeF s m),[]⟩)):ay prog 33 [.st .shape s,.int .i64 m] [] (.ret (.int .i64 (sizeF s m))):=
 g0 (sc (hA) sn) ⟨[(3,fun S0=>⟨Nat × Int,fun x=>x.1<=s.parts.length/\1<=x.2/\x.2<=m+1/\sizeL (s.parts.drop x.1) x.2 m=sizeF s m,fun x=>[(5,.int .i64 x.2),(6,.int .i64 x.1)],fun _=>[],fun x=>s.parts.length - x.1⟩)],[],[]⟩ func33 (Cz n s m hs ho)
theorem Bx:∀n:Nat,aj prog 33 (p2 (.st .shape) (.int .i64) fun s m=>⟨some (sz s<=n/\0<=m/\m<=1000000),none,.int .i64 (sizeF s m),[]⟩):=by
 intro n
 induction n with
 | zero=>exact cJ xB fun a m _ _ ho=>absurd (ho _ rfl).1 (by have:=eP a;omega)
 | succ n ih=>exact cJ xB fun a m ha _ ho=>wo n a m ha (ho _ rfl) ih
theorem qt:aC prog 14:=ee func14
theorem rS (n:Nat) (a b:Shape) (ha:Wf (.st .shape) a) (hb:Wf (.st .shape) b) (hn:sz a<=n+1) (hA:aj prog 14 (p2 (.st .shape) (.st .shape) fun a b=>⟨some (sz a<=n),none,.bool (eqS a b),[]⟩)):ay prog 14 [.st .shape a,.st .shape b] [] (.ret (.bool (eqS a b))):=
 g0 (sc (hA) sn) ⟨[(4,fun S0=>⟨Nat,fun k=>k<=a.names.length/\a.names.length=b.names.length/\a.parts.length=b.parts.length/\eqS a b=(decide (a.names.drop k=b.names.drop k) && eqL a.parts b.parts),fun k=>[(5,.int .i64 k)],fun _=>[],fun k=>a.names.length - k⟩),(9,fun S0=>⟨Nat,fun k=>k<=a.parts.length/\a.parts.length=b.parts.length/\eqS a b=eqL (a.parts.drop k) (b.parts.drop k),fun k=>[(6,.int .i64 k)],fun _=>[],fun k=>a.parts.length - k⟩)],[],[]⟩ func14 (zc n a b ha hb hn)
theorem wq:∀n:Nat,aj prog 14 (p2 (.st .shape) (.st .shape) fun a b=>⟨some (sz a<=n),none,.bool (eqS a b),[]⟩):=by
 intro n
 induction n with
 | zero=>exact cJ qt fun a b _ _ ho=>absurd (ho _ rfl) (by have:=eP a;omega)
 | succ n ih=>exact cJ qt fun a b ha hb ho=>rS n a b ha hb (ho _ rfl) ih
theorem rT (l:List Bndg) (N:Nat) (hl:Wf (.lst (.st .bind)) l) (hN:∀x∈l,sz x.shape<=N) :ay prog 15 [.lst (.st .bind) l none] [] (.ret (.bool (gd l))):=
 g0 (sc (Bx N) sn) ⟨[(4,fun S0=>⟨Nat,fun k=>k<=l.length/\my (l.drop k)=gd l,fun k=>[(3,.int .i64 k)],fun _=>[],fun k=>l.length - k⟩)],[],[]⟩ func15 (zd l N hl hN)
theorem wu:aj prog 15 (p1 (.lst (.st .bind)) fun l=>.ret (.bool (gd l))):=
 bY (ee func15) fun l hl _=>rT l (szB l) hl (AY l)
theorem tX:aj prog 9 (p1 (.st .env) fun e=>.ret (.bool (iE e))):=
 bY (ee func9) fun e he _=>g0 (sc wu sn) a0 func9 (w8 e he)
theorem tY:aj prog 16 (p2 (.st .env) (.lst (.st .bind)) fun e l=>⟨some (e.values.length<=1000000000/\l.length<=1000),none,.st .env (bA e l),[]⟩):=
 cJ (ee func16) fun e l he hl ho=>g0 (sc oM sn) a0 func16 (CA e l he hl (ho _ rfl))
theorem qu:aC prog 37:=ee func37
theorem rU (n:Nat) (t:Trm) (m:Int) (hs:Wf (.st .term) t) (hz:szT t<=n+1) (h0:0<=m) (h1:m<=1000000) (hA:aj prog 37 (p2 (.st .term) (.int .i64) fun t m=>⟨some (szT t<=n/\0<=m/\m<=1000000),none,.tup [.int .i64 (countT t m).1,.int .i64 (countT t m).2],[]⟩)):ay prog 37 [.st .term t,.int .i64 m] [] (⟨some (szT t<=n+1/\0<=m/\m<=1000000),none,.tup [.int .i64 (countT t m).1,.int .i64 (countT t m).2],[]⟩):=
 g0 (sc (hA) sn) ⟨[(3,fun S0=>⟨Nat × Int × Int,fun y=>y.1<=t.parts.length/\1<=y.2.1/\y.2.1<=m+1/\0<=y.2.2/\y.2.2+1<=y.2.1/\countL (t.parts.drop y.1) m y.2.1 y.2.2=countL t.parts m 1 0,fun y=>[(6,.int .i64 y.2.1),(7,.int .i64 y.2.2),(15,.int .i64 y.1)],fun _=>[],fun y=>t.parts.length - y.1⟩)],[],[]⟩ func37 (ze n t m hs hz h0 h1)
theorem p8:∀n:Nat,aj prog 37 (p2 (.st .term) (.int .i64) fun t m=>⟨some (szT t<=n/\0<=m/\m<=1000000),none,.tup [.int .i64 (countT t m).1,.int .i64 (countT t m).2],[]⟩)
 | 0=>cJ qu fun t m hs _ ho=>absurd (ho _ rfl).1 (by have:=szT_pos t;omega)
 | n+1=>cJ qu fun t m hs _ ho=>rU n t m hs (ho _ rfl).1 (ho _ rfl).2.1 (ho _ rfl).2.2 (p8 n)
theorem tZ:aj prog 171 (pcl .str 100 fun x=>⟨none,none,.bool (!aY x),[]⟩):=
 rG (ee func171) fun x _ ho=>g0 (sc l0 sn) a0 func171 (w9 x)
theorem u9:aj prog 227 (pfc (.lst .str) 171 100 fun l=>⟨none,none,.int .i64 (bp aY l 0),[]⟩):=
 jj (ee func227) fun l hl ho=>g0 (sc tZ sn) ⟨[(2,fun S0=>⟨Nat,fun k=>k<=l.length/\bp aY (l.drop k) k=bp aY l 0,fun k=>[(8,.int .i64 k)],fun _=>[],fun k=>l.length - k⟩)],[],[]⟩ func227 (wa l hl)
theorem ua:aj prog 170 (pfc (.lst .str) 171 100 fun l=>⟨none,none,.bool (!l.all aY),[]⟩):=
 jj (ee func170) fun l _ ho=>g0 (sc u9 sn) a0 func170 (wb l)
theorem qv:aj prog 102 (pf (.lst .str) 100 fun l=>⟨none,none,.bool (l.all aY),[]⟩):=
 mj (ee func102) fun l _ ho=>g0 (sc ua sn) a0 func102 (Bd l)
theorem zA:aj prog 101 (p1 (.lst .str) fun l=>⟨some (l.length *16<=140737488355328),none,.bool (l.all aY && decide l.Nodup),[]⟩):=
 bY (ee func101) fun l _ ho=>g0 (sc oZ (sc (km) (sc qv (sc (jk) sn)))) a0 func101 (Be l (ho _ rfl))
theorem wv:aC prog 163:=ee func163
theorem pN (n:Nat) (x:Shape)  (ho:sz x<=n) (hA:aj prog 164 (p1 (.st .shape) fun s=>⟨some (sz s<=n),none,.bool (allS bk s),[]⟩)):ay prog 163 [.st .shape x,.ptr 900 0] [(900,.box (.fn 164 []))] (⟨some (sz x<=n),none,.bool (!(allS bk) x),[]⟩):=
 g0 (sc (hA) sn) a0 func163 (wc n x ho)
theorem ub (n:Nat) (hA:aj prog 164 (p1 (.st .shape) fun s=>⟨some (sz s<=n),none,.bool (allS bk s),[]⟩)):aj prog 163 (pcl (.st .shape) 164 fun x=>⟨some (sz x<=n),none,.bool (!(allS bk) x),[]⟩):=
 rG wv fun x _ ho=>pN n x (ho _ rfl) hA
theorem wx:aC prog 222:=ee func222
theorem pO (n:Nat) (l:List AL.Shape)  (hl:Wf (.lst (.st .shape)) l) (ho:∀x∈l,sz x<=n) (hA:aj prog 164 (p1 (.st .shape) fun s=>⟨some (sz s<=n),none,.bool (allS bk s),[]⟩)):ay prog 222 [.lst (.st .shape) l none,.fn 163 [.ptr 900 0]] [(900,.box (.fn 164 []))] (⟨some (∀x∈l,sz x<=n),none,.int .i64 (bp (allS bk) l 0),[]⟩):=
 g0 (sc ((ub n hA)) sn) ⟨[(2,fun S0=>⟨Nat,fun k=>k<=l.length/\bp (allS bk) (l.drop k) k=bp (allS bk) l 0,fun k=>[(8,.int .i64 k)],fun _=>[],fun k=>l.length - k⟩)],[],[]⟩ func222 (we n l hl ho)
theorem uc (n:Nat) (hA:aj prog 164 (p1 (.st .shape) fun s=>⟨some (sz s<=n),none,.bool (allS bk s),[]⟩)):aj prog 222 (pfc (.lst (.st .shape)) 163 164 fun l=>⟨some (∀x∈l,sz x<=n),none,.int .i64 (bp (allS bk) l 0),[]⟩):=
 jj wx fun l hl ho=>pO n l hl (ho _ rfl) hA
theorem wy:aC prog 162:=ee func162
theorem pP (n:Nat) (l:List AL.Shape)  (ho:∀x∈l,sz x<=n) (hA:aj prog 164 (p1 (.st .shape) fun s=>⟨some (sz s<=n),none,.bool (allS bk s),[]⟩)):ay prog 162 [.lst (.st .shape) l none,.fn 163 [.ptr 900 0]] [(900,.box (.fn 164 []))] (⟨some (∀x∈l,sz x<=n),none,.bool (!l.all (allS bk)),[]⟩):=
 g0 (sc ((uc n hA)) sn) a0 func162 (wg n l ho)
theorem ud (n:Nat) (hA:aj prog 164 (p1 (.st .shape) fun s=>⟨some (sz s<=n),none,.bool (allS bk s),[]⟩)):aj prog 162 (pfc (.lst (.st .shape)) 163 164 fun l=>⟨some (∀x∈l,sz x<=n),none,.bool (!l.all (allS bk)),[]⟩):=
 jj wy fun l _ ho=>pP n l (ho _ rfl) hA
theorem By:aC prog 97:=ee func97
theorem ue (n:Nat) (l:List AL.Shape)  (ho:∀x∈l,sz x<=n) (hA:aj prog 164 (p1 (.st .shape) fun s=>⟨some (sz s<=n),none,.bool (allS bk s),[]⟩)):ay prog 97 [.lst (.st .shape) l none,.fn 164 []] [] (⟨some (∀x∈l,sz x<=n),none,.bool (l.all (allS bk)),[]⟩):=
 g0 (sc ((ud n hA)) sn) a0 func97 (Bf n l ho)
theorem zB (n:Nat) (hA:aj prog 164 (p1 (.st .shape) fun s=>⟨some (sz s<=n),none,.bool (allS bk s),[]⟩)):aj prog 97 (pf (.lst (.st .shape)) 164 fun l=>⟨some (∀x∈l,sz x<=n),none,.bool (l.all (allS bk)),[]⟩):=
 mj By fun l _ ho=>ue n l (ho _ rfl) hA
theorem xC:aC prog 164:=ee func164
theorem wz (n:Nat) (s:AL.Shape) (ho:sz s<=n+1) (hE:aj prog 97 (pf (.lst (.st .shape)) 164 fun l=>⟨some (∀x∈l,sz x<=n),none,.bool (l.all (allS bk)),[]⟩)):ay prog 164 [.st .shape s] [] (⟨some (sz s<=n+1),none,.bool (allS bk s),[]⟩):=
 g0 (sc (hE) sn) a0 func164 (CB n s ho)
theorem uf:∀n:Nat,aj prog 164 (p1 (.st .shape) fun s=>⟨some (sz s<=n),none,.bool (allS bk s),[]⟩)
 | 0=>bY xC fun s _ ho=>absurd (ho _ rfl) (by have:=eP s;omega)
 | n+1=>bY xC fun s _ ho=>wz n s (ho _ rfl) (zB n (uf n))
theorem wA:aj prog 98 (p1 (.st .shape) fun s=>.ret (.bool (decide (ax s=0) && allS bk s))):=
 bY (ee func98) fun s _ _=>g0 (sc fN (sc (uf 400) sn)) a0 func98 (zf s)
theorem CK:aj prog 96 (p1 (.st .term) fun t=>.ret (.agg [.int .i64 (t.names.length:Int),.int .i64 (t.vars.length:Int),.int .i64 (t.shapes.length:Int),.int .i64 (t.parts.length:Int)])):=
 bY (ee func96) fun t _ _=>g0 sn a0 func96 (Dv t)
theorem zC:aj prog 99 (p1 .str fun s=>.ret (.bool (oI s))):=
 bY (ee func99) fun s hs _=>g0 (sc (yG) sn) ⟨[(2,fun S0=>⟨Nat,fun k=>k<=s.length/\(s.all eB)=(s.drop k).all eB,fun k=>[(8,.int .i64 k)],fun _=>[],fun k=>s.length - k⟩)],[],[]⟩ func99 (Bg s hs)
theorem rV:aj prog 163 (pcl (.st .shape) 98 fun x=>⟨none,none,.bool (!bQ x),[]⟩):=
 rG (ee func163) fun x _ ho=>g0 (sc wA sn) a0 func163 (tO x)
theorem rW:aj prog 222 (pfc (.lst (.st .shape)) 163 98 fun l=>⟨none,none,.int .i64 (bp bQ l 0),[]⟩):=
 jj (ee func222) fun l hl ho=>g0 (sc rV sn) ⟨[(2,fun S0=>⟨Nat,fun k=>k<=l.length/\bp bQ (l.drop k) k=bp bQ l 0,fun k=>[(8,.int .i64 k)],fun _=>[],fun k=>l.length - k⟩)],[],[]⟩ func222 (tP l hl)
theorem rX:aj prog 162 (pfc (.lst (.st .shape)) 163 98 fun l=>⟨none,none,.bool (!l.all bQ),[]⟩):=
 jj (ee func162) fun l _ ho=>g0 (sc rW sn) a0 func162 (tQ l)
theorem wB:aj prog 97 (pf (.lst (.st .shape)) 98 fun l=>⟨none,none,.bool (l.all bQ),[]⟩):=
 mj (ee func97) fun l _ ho=>g0 (sc rX sn) a0 func97 (zg l)
theorem zD:aj prog 57 (p1 (.st .term) fun t=>⟨some (t.names.length<=8796093022208),none,.bool (ai t),[]⟩):=
 bY (ee func57) fun t ht ho=>g0 (sc CK (sc wB (sc zC (sc l0 (sc zA (sc qv (sc qp sn))))))) ⟨[],[],[(2,fun S0=>⟨[(34,.bool (!gw t))],[]⟩)]⟩ func57 (Bh t ht (ho _ rfl))
theorem ug:aC prog 105:=ee func105
theorem p9 (n:Nat) (x:Trm)  (ho:szT x<=n/\fewT x=true) (hA:aj prog 38 (p1 (.st .term) fun t=>⟨some (szT t<=n/\fewT t=true),none,.bool (allT ai t),[]⟩)):ay prog 105 [.st .term x,.ptr 900 0] [(900,.box (.fn 38 []))] (⟨some (szT x<=n/\fewT x=true),none,.bool (!(allT ai) x),[]⟩):=
 g0 (sc (hA) sn) a0 func105 (tR n x ho)
theorem rY (n:Nat) (hA:aj prog 38 (p1 (.st .term) fun t=>⟨some (szT t<=n/\fewT t=true),none,.bool (allT ai t),[]⟩)):aj prog 105 (pcl (.st .term) 38 fun x=>⟨some (szT x<=n/\fewT x=true),none,.bool (!(allT ai) x),[]⟩):=
 rG ug fun x _ ho=>p9 n x (ho _ rfl) hA
theorem uh:aC prog 172:=ee func172
theorem pa (n:Nat) (l:List Trm)  (hl:Wf (.lst (.st .term)) l) (ho:∀x∈l,szT x<=n/\fewT x=true) (hA:aj prog 38 (p1 (.st .term) fun t=>⟨some (szT t<=n/\fewT t=true),none,.bool (allT ai t),[]⟩)):ay prog 172 [.lst (.st .term) l none,.fn 105 [.ptr 900 0]] [(900,.box (.fn 38 []))] (⟨some (∀x∈l,szT x<=n/\fewT x=true),none,.int .i64 (bp (allT ai) l 0),[]⟩):=
 g0 (sc ((rY n hA)) sn) ⟨[(2,fun S0=>⟨Nat,fun k=>k<=l.length/\bp (allT ai) (l.drop k) k=bp (allT ai) l 0,fun k=>[(8,.int .i64 k)],fun _=>[],fun k=>l.length - k⟩)],[],[]⟩ func172 (tS n l hl ho)
theorem rZ (n:Nat) (hA:aj prog 38 (p1 (.st .term) fun t=>⟨some (szT t<=n/\fewT t=true),none,.bool (allT ai t),[]⟩)):aj prog 172 (pfc (.lst (.st .term)) 105 38 fun l=>⟨some (∀x∈l,szT x<=n/\fewT x=true),none,.int .i64 (bp (allT ai) l 0),[]⟩):=
 jj uh fun l hl ho=>pa n l hl (ho _ rfl) hA
theorem ui:aC prog 104:=ee func104
theorem pb (n:Nat) (l:List Trm)  (ho:∀x∈l,szT x<=n/\fewT x=true) (hA:aj prog 38 (p1 (.st .term) fun t=>⟨some (szT t<=n/\fewT t=true),none,.bool (allT ai t),[]⟩)):ay prog 104 [.lst (.st .term) l none,.fn 105 [.ptr 900 0]] [(900,.box (.fn 38 []))] (⟨some (∀x∈l,szT x<=n/\fewT x=true),none,.bool (!l.all (allT ai)),[]⟩):=
 g0 (sc ((rZ n hA)) sn) a0 func104 (tT n l ho)
theorem s5 (n:Nat) (hA:aj prog 38 (p1 (.st .term) fun t=>⟨some (szT t<=n/\fewT t=true),none,.bool (allT ai t),[]⟩)):aj prog 104 (pfc (.lst (.st .term)) 105 38 fun l=>⟨some (∀x∈l,szT x<=n/\fewT x=true),none,.bool (!l.all (allT ai)),[]⟩):=
 jj ui fun l _ ho=>pb n l (ho _ rfl) hA
theorem zE:aC prog 58:=ee func58
theorem s6 (n:Nat) (l:List Trm)  (ho:∀x∈l,szT x<=n/\fewT x=true) (hA:aj prog 38 (p1 (.st .term) fun t=>⟨some (szT t<=n/\fewT t=true),none,.bool (allT ai t),[]⟩)):ay prog 58 [.lst (.st .term) l none,.fn 38 []] [] (⟨some (∀x∈l,szT x<=n/\fewT x=true),none,.bool (l.all (allT ai)),[]⟩):=
 g0 (sc ((s5 n hA)) sn) a0 func58 (zh n l ho)
theorem wC (n:Nat) (hA:aj prog 38 (p1 (.st .term) fun t=>⟨some (szT t<=n/\fewT t=true),none,.bool (allT ai t),[]⟩)):aj prog 58 (pf (.lst (.st .term)) 38 fun l=>⟨some (∀x∈l,szT x<=n/\fewT x=true),none,.bool (l.all (allT ai)),[]⟩):=
 mj zE fun l _ ho=>s6 n l (ho _ rfl) hA
theorem qw:aC prog 38:=ee func38
theorem s7 (n:Nat) (t:Trm) (ho:szT t<=n+1/\fewT t=true) (hE:aj prog 58 (pf (.lst (.st .term)) 38 fun l=>⟨some (∀x∈l,szT x<=n/\fewT x=true),none,.bool (l.all (allT ai)),[]⟩)):ay prog 38 [.st .term t] [] (⟨some (szT t<=n+1/\fewT t=true),none,.bool (allT ai t),[]⟩):=
 g0 (sc zD (sc (hE) sn)) a0 func38 (zi n t ho)
theorem pc:∀n:Nat,aj prog 38 (p1 (.st .term) fun t=>⟨some (szT t<=n/\fewT t=true),none,.bool (allT ai t),[]⟩)
 | 0=>bY qw fun t _ ho=>absurd (ho _ rfl).1 (by have:=szT_pos t;omega)
 | n+1=>bY qw fun t _ ho=>s7 n t (ho _ rfl) (wC n (pc n))
theorem s8 (x:Trm) (ho:fewT x=true) :ay prog 21 [.st .term x] [] (⟨some (fewT x=true),none,.int .i64 (bF x),[]⟩):=
 g0 (sc (p8 (szT x)) (sc (pc (szT x)) sn)) a0 func21 (zj x ho)
theorem pd:aj prog 21 (p1 (.st .term) fun t=>⟨some (fewT t=true),none,.int .i64 (bF t),[]⟩):=
 bY (ee func21) fun t _ ho=>s8 t (ho _ rfl)
theorem uj:aC prog 27:=ee func27
theorem uk (n:Nat) (s:Trm) (m:Int) (hs:Wf (.st .term) s) (ho:szT s<=n+1/\0<=m/\m<=1000000) (hA:aj prog 27 (p2 (.st .term) (.int .i64) fun s m=>⟨some (szT s<=n/\0<=m/\m<=1000000),none,.int .i64 (dj s m),[]⟩)):ay prog 27 [.st .term s,.int .i64 m] [] (.ret (.int .i64 (dj s m))):=
 g0 (sc (hA) sn) ⟨[(3,fun S0=>⟨Nat × Int,fun x=>x.1<=s.parts.length/\1<=x.2/\x.2<=m+1/\sizeTL (s.parts.drop x.1) x.2 m=dj s m,fun x=>[(5,.int .i64 x.2),(6,.int .i64 x.1)],fun _=>[],fun x=>s.parts.length - x.1⟩)],[],[]⟩ func27 (Bi n s m hs ho)
theorem zF:∀n:Nat,aj prog 27 (p2 (.st .term) (.int .i64) fun s m=>⟨some (szT s<=n/\0<=m/\m<=1000000),none,.int .i64 (dj s m),[]⟩):=by
 intro n
 induction n with
 | zero=>exact cJ uj fun a m _ _ ho=>absurd (ho _ rfl).1 (by have:=szT_pos a;omega)
 | succ n ih=>exact cJ uj fun a m ha _ ho=>uk n a m ha (ho _ rfl) ih
theorem wD:aj prog 273 (p3 (.st .shape) (.st .shape) .bool fun a b f=>.ret (.bool (decide (f=decide (a.kind=6))))):=
 Av (ee func273) fun a b f _ _ _ _=>g0 sn a0 func273 (zk a b f)
theorem zG:aj prog 251 (p0 ⟨none,none,.ptr 2 0,[(2,.box (.agg [.fn 273 []]))]⟩):=
 CY (ee func251) (g0 sn a0 func251 (Bj))
theorem qx:aj prog 274 (p2 (.st .shape) .str fun s m=>⟨some (aq s=true),none,.pt .shape (aZ s m),[]⟩):=
 cJ (ee func274) fun s m hs _ ho=>g0 (sc oY sn) a0 func274 (Bk s m hs (ho _ rfl))
theorem wE:aj prog 275 (vP fun m s=>⟨some (aq s=true),none,.bool (aZ s m).isNone,[]⟩):=
 yO (ee func275) fun m s ho=>g0 (sc qx sn) a0 func275 (zl m s (ho _ rfl))
theorem zH:aj prog 250 (p2 (.st .shape) (.st .shape) fun a b=>.ret (.bool (decide (ax a=0) && decide (ax b=0)))):=
 cJ (ee func250) fun a b _ _ _=>g0 (sc fN sn) a0 func250 (Bl a b)
theorem Bz:aj prog 227 (kV 275 fun l s=>⟨some (aq s=true),none,.int .i64 (bp (fun m=>(aZ s m).isSome) l 0),[]⟩):=
 mz (ee func227) fun l s hl ho=>g0 (sc wE sn) ⟨[(2,fun S0=>⟨Nat,fun k=>k<=l.length/\bp (fun m=>(aZ s m).isSome) (l.drop k) k=bp (fun m=>(aZ s m).isSome) l 0,fun k=>[(8,.int .i64 k)],fun _=>[],fun k=>l.length - k⟩)],[],[]⟩ func227 (CC l s hl (ho _ rfl))
theorem BA:aj prog 170 (kV 275 fun l s=>⟨some (aq s=true),none,.bool (!l.all (fun m=>(aZ s m).isSome)),[]⟩):=
 mz (ee func170) fun l s _ ho=>g0 (sc Bz sn) a0 func170 (CD l s (ho _ rfl))
theorem um:aC prog 252:=ee func252
theorem uo (n:Nat) (a b:Shape) (ha:Wf (.st .shape) a) (hb:Wf (.st .shape) b) (hn:sz a+sz b<=n+1) (oa:allS aq a=true) (ob:allS aq b=true) (hA:aj prog 252 (rL 273 fun a b=>⟨some (sz a+sz b<=n/\allS aq a=true/\allS aq b=true),none,.bool (aX n a b),[]⟩)):ay prog 252 [.ptr 900 0,.st .shape a,.st .shape b] [(900,.box (.agg [.fn 273 []]))] (⟨some (sz a+sz b<=n+1/\allS aq a=true/\allS aq b=true),none,.bool (aX (n+1) a b),[]⟩):=
 g0 (sc wD (sc qx (sc BA (sc (hA) sn)))) ⟨[(7,fun S0=>⟨Nat,fun k=>k<=a.names.length/\dD (aX n) (decide (a.kind=7)) b (a.names.drop k) (a.parts.drop k)=dD (aX n) (decide (a.kind=7)) b a.names a.parts,fun k=>[(54,.int .i64 k)],fun _=>[],fun k=>a.names.length - k⟩),(17,fun S0=>⟨Nat,fun k=>k<=a.parts.length/\aX (n+1) a b=iM (aX n) (decide (a.kind=8)) (a.parts.drop k) (b.parts.drop k),fun k=>[(117,.int .i64 k)],fun _=>[],fun k=>a.parts.length - k⟩)],[],[(5,fun S0=>⟨[(42,.bool (decide (a.kind=6) || decide (a.kind=7)))],[]⟩)]⟩ func252 (Bm n a b ha hb hn oa ob)
theorem qy:∀n:Nat,aj prog 252 (rL 273 fun a b=>⟨some (sz a+sz b<=n/\allS aq a=true/\allS aq b=true),none,.bool (aX n a b),[]⟩)
 | 0=>qj um fun a b ha hb ho=>absurd (eP a) (by have:=(ho _ rfl).1;omega)
 | n+1=>qj um fun a b ha hb ho=>uo n a b ha hb (ho _ rfl).1 (ho _ rfl).2.1 (ho _ rfl).2.2 (qy n)
theorem BB:aj prog 207 (p2 (.st .shape) (.st .shape) fun a b=>.ret (.bool (kT a b))):=
 cJ (ee func207) fun a b ha hb _=>g0 (sc zH (sc zG (sc (qy 800) sn))) a0 func207 (CE a b ha hb)
theorem wF (k:Nam) (v:Shape)  :ay prog 277 [.ptr 900 0,.st .nm k,.st .shape v] [(900,.box (.agg [.nilm]))] (⟨none,none,.tup [],[(900,.box (.map 12)),(12,.map (.st .nm) (.st .shape) (dK ([]:List (Nam × Shape)) k v))]⟩):=
 g0 sn a0 func277 (CF k v)
theorem uq:aj prog 277 (vQ fun m k v=>match m with | none=>⟨none,none,.tup [],[(900,.box (.map 12)),(12,.map (.st .nm) (.st .shape) (dK ([]:List (Nam × Shape)) k v))]⟩ | some m=>⟨none,none,.tup [],[(901,.map (.st .nm) (.st .shape) (dK m k v))]⟩):=
 yP (ee func277) (fun k v=>wF k v) fun m k v=>g0 sn a0 func277 (CG m k v)
theorem wG (k:Nam)  :ay prog 276 [.ptr 900 0,.st .nm k] [(900,.box (.agg [.nilm]))] (.ret (.tup [.st .shape ((b6 [] k.pkg k.name).getD ao),.bool (b6 [] k.pkg k.name).isSome])):=
 g0 sn a0 func276 (CH k)
theorem ur:aj prog 276 (vR fun m k=>.ret (.tup [.st .shape ((b6 (m.getD []) k.pkg k.name).getD ao),.bool (b6 (m.getD []) k.pkg k.name).isSome])):=
 yQ (ee func276) (fun k=>wG k) fun m k=>g0 sn a0 func276 (CI m k)
theorem uu (n:Nat) (s:AL.Shape) (hs:Wf (.st .shape) s) (hn:sz s<=n+1) (h4:n+1<=400) (os:allS aq s=true) (hA:aj prog 253 (kX fun m s=>⟨some (sz s<=n/\n<=400/\allS aq s=true),none,.tup [.st .shape ((fillS (b6 (m.getD [])) s).getD ao),.bool (fillS (b6 (m.getD [])) s).isSome],[]⟩)):ay prog 253 [.st .shape s,.ptr 900 0] [(900,.box (.agg [.nilm]))] (⟨some (sz s<=(n+1)/\(n+1)<=400/\allS aq s=true),none,.tup [.st .shape ((fillS (b6 []) s).getD ao),.bool (fillS (b6 []) s).isSome],[]⟩):=
 g0 (sc ur (sc (hA) (sc (lL) sn))) ⟨[(5,fun S0=>⟨Nat × List AL.Shape,fun x=>x.1<=s.parts.length/\x.2.length=x.1/\fillL (b6 []) s.parts=(fillL (b6 []) (s.parts.drop x.1)).map (x.2++ ·),fun x=>[(30,.int .i64 x.1),(6,.lst (.st .shape) x.2 (some 26))],fun x=>[(26,.tail (.st .shape) x.2.length)],fun x=>s.parts.length - x.1⟩)],[],[]⟩ func253 (Bn n s hs hn h4 os)
theorem uv:aC prog 253:=ee func253
theorem uw (n:Nat) (m:List (Nam × Shape)) (s:AL.Shape) (hs:Wf (.st .shape) s) (hn:sz s<=n+1) (h4:n+1<=400) (os:allS aq s=true) (hA:aj prog 253 (kX fun m s=>⟨some (sz s<=n/\n<=400/\allS aq s=true),none,.tup [.st .shape ((fillS (b6 (m.getD [])) s).getD ao),.bool (fillS (b6 (m.getD [])) s).isSome],[]⟩)):ay prog 253 [.st .shape s,.ptr 900 0] [(900,.box (.map 901)),(901,.map (.st .nm) (.st .shape) m)] (⟨some (sz s<=(n+1)/\(n+1)<=400/\allS aq s=true),none,.tup [.st .shape ((fillS (b6 m) s).getD ao),.bool (fillS (b6 m) s).isSome],[]⟩):=
 g0 (sc ur (sc (hA) (sc (lL) sn))) ⟨[(5,fun S0=>⟨Nat × List AL.Shape,fun x=>x.1<=s.parts.length/\x.2.length=x.1/\fillL (b6 m) s.parts=(fillL (b6 m) (s.parts.drop x.1)).map (x.2++ ·),fun x=>[(30,.int .i64 x.1),(6,.lst (.st .shape) x.2 (some 26))],fun x=>[(26,.tail (.st .shape) x.2.length)],fun x=>s.parts.length - x.1⟩)],[],[]⟩ func253 (Bp n m s hs hn h4 os)
theorem jG:∀n:Nat,aj prog 253 (kX fun m s=>⟨some (sz s<=n/\n<=400/\allS aq s=true),none,.tup [.st .shape ((fillS (b6 (m.getD [])) s).getD ao),.bool (fillS (b6 (m.getD [])) s).isSome],[]⟩)
 | 0=>oO uv (fun s hs ho=>absurd (eP s) (by have:=(ho _ rfl).1;omega)) (fun m s hs ho=>absurd (eP s) (by have:=(ho _ rfl).1;omega))
 | n+1=>oO uv (fun s hs ho=>uu n s hs (ho _ rfl).1 (ho _ rfl).2.1 (ho _ rfl).2.2 (jG n)) (fun m s hs ho=>uw n m s hs (ho _ rfl).1 (ho _ rfl).2.1 (ho _ rfl).2.2 (jG n))
theorem s9   :ay prog 254 [.lst (.st .bind) [] none] [] (⟨none,none,.ptr 7 0,[(7,.box (.agg [.nilm]))]⟩):=
 g0 (sc uq sn) ⟨[(3,fun S0=>⟨Nat,fun _=>True,fun _=>[(10,.int .i64 0)],fun _=>[],fun _=>0⟩)],[],[]⟩ func254 (zm)
theorem pe:aj prog 254 (oP ⟨none,none,.ptr 7 0,[(7,.box (.agg [.nilm]))]⟩ fun b r=>⟨none,none,.ptr 7 0,[(7,.box (.map 701)),(701,.map (.st .nm) (.st .shape) (gx (b ::r)))]⟩):=
 tJ (ee func254) s9 fun b r hl=>g0 (sc uq sn) ⟨[(3,fun S0=>⟨Nat × List (Nam × Shape),fun x=>x.1<=(b ::r).length/\mA ((b ::r).drop x.1) x.2=gx (b ::r),fun x=>[(10,.int .i64 x.1)],fun x=>[(7,.box (.map 701)),(701,.map (.st .nm) (.st .shape) x.2)],fun x=>(b ::r).length - x.1⟩)],[(200003,[1,13022,701])],[]⟩ func254 (zn b r hl)
theorem pg (s:AL.Shape) (hs:Wf (.st .shape) s) :ay prog 208 [.st .shape s,.lst (.st .bind) [] none] [] (.ret (.tup [.st .shape (au s []).1,.int .i64 (au s []).2])):=
 g0 (sc fN (sc pe (sc (jG 400) (sc jo sn)))) a0 func208 (tU s hs)
theorem uz:aj prog 208 (p2 (.st .shape) (.lst (.st .bind)) fun s l=>.ret (.tup [.st .shape (au s l).1,.int .i64 (au s l).2])):=
 cJ (ee func208) fun s l hs hl _=>match l,hl with | [],_=>pg s hs | b ::r,hl=>g0 (sc fN (sc pe (sc (jG 400) (sc jo sn)))) a0 func208 (wh s b r hs hl)
theorem sa:aj prog 53 (p1 (.int .i64) fun k=>.ret (.st .shape (ofK k))):=
 bY (ee func53) fun k _ _=>g0 sn a0 func53 (Dw k)
theorem dA:aj prog 29 (p2 (.int .i64) (.int .i64) fun e a=>.ret (.agg [.int .i64 e,.int .i64 a])):=
 cJ (ee func29) fun e a _ _ _=>g0 sn a0 func29 (zo e a)
theorem zI:aj prog 77 (p3 (.lst (.st .bind)) .str .str fun l o m=>.ret (.tup [.st .shape ((aU l o m).elim ao aM),.bool (aU l o m).isSome])):=
 Av (ee func77) fun l o m hl _ _ _=>g0 (sc jo sn) ⟨[(2,fun S0=>⟨Nat,fun k=>k<=l.length/\aU l o m=aU (l.take k) o m,fun k=>[(8,.int .i64 ((k:Int) - 1))],fun _=>[],fun k=>k⟩)],[],[]⟩ func77 (Bq l o m hl)
theorem qz:aC prog 30:=ee func30
theorem sb (n:Nat) (t:Trm) (e:Envt) (ht:Wf (.st .term) t) (he:Wf (.st .env) e) (hz:szT t<=n+1) (hf:allT ai t=true) (hv:e.values.length+4096 *szT t<=100000000) (hP:aj prog 49 (p2 (.st .term) (.st .env) fun t e=>⟨some (szT t<=n+1/\allT ai t=true/\e.values.length+4096 *szT t<=100000000),none,.tup [.st .shape (an (aa n) t e).1,.agg [.int .i64 (an (aa n) t e).2.err,.int .i64 (an (aa n) t e).2.pos]],[]⟩)):ay prog 30 [.st .term t,.st .env e] [] (⟨some (szT t<=n+1/\allT ai t=true/\e.values.length+4096 *szT t<=100000000),none,.tup [.st .shape (aa (n+1) t e).1,.agg [.int .i64 (aa (n+1) t e).2.err,.int .i64 (aa (n+1) t e).2.pos]],[]⟩):=
 g0 (sc (hP) (sc fN (sc jo (sc dA sn)))) a0 func30 (zp n t e ht he hz hf hv)
theorem BC:aC prog 144:=ee func144
theorem uA (n:Nat) (t:Trm) (w:Shape) (e:Envt) (ht:Wf (.st .term) t) (hw:Wf (.st .shape) w) (he:Wf (.st .env) e) (hz:szT t<=n) (hf:allT ai t=true) (hv:e.values.length+4096 *szT t<=100000000) (hA:aj prog 30 (p2 (.st .term) (.st .env) fun t e=>⟨some (szT t<=n/\allT ai t=true/\e.values.length+4096 *szT t<=100000000),none,.tup [.st .shape (aa n t e).1,.agg [.int .i64 (aa n t e).2.err,.int .i64 (aa n t e).2.pos]],[]⟩)):ay prog 144 [.st .term t,.st .shape w,.st .env e] [] (⟨some (szT t<=n/\allT ai t=true/\e.values.length+4096 *szT t<=100000000),none,.agg [.int .i64 (az (aa n) t w e).err,.int .i64 (az (aa n) t w e).pos],[]⟩):=
 g0 (sc (hA) (sc BB (sc dA sn))) a0 func144 (Br n t w e ht hw he hz hf hv)
theorem zJ (n:Nat) (hA:aj prog 30 (p2 (.st .term) (.st .env) fun t e=>⟨some (szT t<=n/\allT ai t=true/\e.values.length+4096 *szT t<=100000000),none,.tup [.st .shape (aa n t e).1,.agg [.int .i64 (aa n t e).2.err,.int .i64 (aa n t e).2.pos]],[]⟩)):aj prog 144 (p3 (.st .term) (.st .shape) (.st .env) fun t w e=>⟨some (szT t<=n/\allT ai t=true/\e.values.length+4096 *szT t<=100000000),none,.agg [.int .i64 (az (aa n) t w e).err,.int .i64 (az (aa n) t w e).pos],[]⟩):=
 Av BC fun t w e ht hw he ho=>uA n t w e ht hw he (ho _ rfl).1 (ho _ rfl).2.1 (ho _ rfl).2.2 hA
theorem zK:aC prog 79:=ee func79
theorem sd (n:Nat) (t:Trm) (e:Envt) (ht:Wf (.st .term) t) (he:Wf (.st .env) e) (hp:0 < t.parts.length) (hz:szT t<=n+1) (hf:allT ai t=true) (hv:e.values.length+4096 *szT t<=100000000) (hA:aj prog 30 (p2 (.st .term) (.st .env) fun t e=>⟨some (szT t<=n/\allT ai t=true/\e.values.length+4096 *szT t<=100000000),none,.tup [.st .shape (aa n t e).1,.agg [.int .i64 (aa n t e).2.err,.int .i64 (aa n t e).2.pos]],[]⟩)):ay prog 79 [.st .term t,.st .env e] [] (⟨some (0 < t.parts.length/\szT t<=n+1/\allT ai t=true/\e.values.length+4096 *szT t<=100000000),none,.tup [.st .shape (bR (aa n) t e).1,.agg [.int .i64 (bR (aa n) t e).2.err,.int .i64 (bR (aa n) t e).2.pos]],[]⟩):=
 g0 (sc (hA) (sc oY (sc dA sn))) a0 func79 (zq n t e ht he hp hz hf hv)
theorem wH (n:Nat) (hA:aj prog 30 (p2 (.st .term) (.st .env) fun t e=>⟨some (szT t<=n/\allT ai t=true/\e.values.length+4096 *szT t<=100000000),none,.tup [.st .shape (aa n t e).1,.agg [.int .i64 (aa n t e).2.err,.int .i64 (aa n t e).2.pos]],[]⟩)):aj prog 79 (p2 (.st .term) (.st .env) fun t e=>⟨some (0 < t.parts.length/\szT t<=n+1/\allT ai t=true/\e.values.length+4096 *szT t<=100000000),none,.tup [.st .shape (bR (aa n) t e).1,.agg [.int .i64 (bR (aa n) t e).2.err,.int .i64 (bR (aa n) t e).2.pos]],[]⟩):=
 cJ zK fun t e ht he ho=>sd n t e ht he (ho _ rfl).1 (ho _ rfl).2.1 (ho _ rfl).2.2.1 (ho _ rfl).2.2.2 hA
theorem wI:aj prog 146 (p2 (.st .term) (.st .env) fun t e=>⟨some (t.shapes.length<=1000000),none,.tup [.lst (.st .shape) (ae e.types t.pos t.shapes).1 (some 702),.agg [.int .i64 (ae e.types t.pos t.shapes).2.err,.int .i64 (ae e.types t.pos t.shapes).2.pos]],[(702,.tail (.st .shape) (ae e.types t.pos t.shapes).1.length)]⟩):=
 cJ (ee func146) fun t e ht he ho=>g0 (sc uz (sc dA sn)) ⟨[(3,fun S0=>⟨Nat × List AL.Shape,fun x=>x.1<=t.shapes.length/\x.2.length=x.1/\((ae e.types t.pos (t.shapes.drop x.1)).2.err=0→ae e.types t.pos t.shapes=(x.2++(ae e.types t.pos (t.shapes.drop x.1)).1,ct))/\(¬(ae e.types t.pos (t.shapes.drop x.1)).2.err=0→ae e.types t.pos t.shapes=ae e.types t.pos (t.shapes.drop x.1)),fun x=>[(14,.int .i64 x.1),(6,.lst (.st .shape) x.2 (some 701))],fun x=>[(701,.tail (.st .shape) x.2.length)],fun x=>t.shapes.length - x.1⟩)],[(300010,[701,702])],[]⟩ func146 (zr t e ht he (ho _ rfl))
theorem BD:aC prog 78:=ee func78
theorem uB (n:Nat) (t:Trm) (e:Envt) (ht:Wf (.st .term) t) (he:Wf (.st .env) e) (hp:0 < t.parts.length) (hz:szT t<=n+1) (hf:allT ai t=true) (hv:e.values.length+4096 *szT t<=100000000) (hA:aj prog 30 (p2 (.st .term) (.st .env) fun t e=>⟨some (szT t<=n/\allT ai t=true/\e.values.length+4096 *szT t<=100000000),none,.tup [.st .shape (aa n t e).1,.agg [.int .i64 (aa n t e).2.err,.int .i64 (aa n t e).2.pos]],[]⟩)) (hF:aj prog 144 (p3 (.st .term) (.st .shape) (.st .env) fun t w e=>⟨some (szT t<=n/\allT ai t=true/\e.values.length+4096 *szT t<=100000000),none,.agg [.int .i64 (az (aa n) t w e).err,.int .i64 (az (aa n) t w e).pos],[]⟩)):ay prog 78 [.st .term t,.st .env e] [] (⟨some (0 < t.parts.length/\szT t<=n+1/\allT ai t=true/\e.values.length+4096 *szT t<=100000000),none,.tup [.st .shape (bH (aa n) t e).1,.agg [.int .i64 (bH (aa n) t e).2.err,.int .i64 (bH (aa n) t e).2.pos]],[]⟩):=
 g0 (sc (hA) (sc (hF) (sc sa (sc dA sn)))) ⟨[(8,fun S0=>⟨Nat,fun k=>k+1<=t.parts.length/\((aa n (t.parts.getD 0 aB) e).1.kind=4→cv (aa n) e (ofK 4) (t.parts.drop 1)=cv (aa n) e (ofK 4) (t.parts.drop (k+1)))/\(¬(aa n (t.parts.getD 0 aB) e).1.kind=4→dE (aa n) e (t.parts.drop 1) (aa n (t.parts.getD 0 aB) e).1.parts=dE (aa n) e (t.parts.drop (k+1)) ((aa n (t.parts.getD 0 aB) e).1.parts.drop k)),fun k=>[(54,.int .i64 k)],fun _=>[],fun k=>t.parts.length - k⟩)],[],[(5,fun S0=>⟨[(45,.bool (!decide ((aa n (t.parts.getD 0 aB) e).1.kind=4) && (!decide ((aa n (t.parts.getD 0 aB) e).1.kind=8) || !decide ((aa n (t.parts.getD 0 aB) e).1.parts.length=t.parts.length))))],[]⟩)]⟩ func78 (Bt n t e ht he hp hz hf hv)
theorem zL (n:Nat) (hA:aj prog 30 (p2 (.st .term) (.st .env) fun t e=>⟨some (szT t<=n/\allT ai t=true/\e.values.length+4096 *szT t<=100000000),none,.tup [.st .shape (aa n t e).1,.agg [.int .i64 (aa n t e).2.err,.int .i64 (aa n t e).2.pos]],[]⟩)) (hF:aj prog 144 (p3 (.st .term) (.st .shape) (.st .env) fun t w e=>⟨some (szT t<=n/\allT ai t=true/\e.values.length+4096 *szT t<=100000000),none,.agg [.int .i64 (az (aa n) t w e).err,.int .i64 (az (aa n) t w e).pos],[]⟩)):aj prog 78 (p2 (.st .term) (.st .env) fun t e=>⟨some (0 < t.parts.length/\szT t<=n+1/\allT ai t=true/\e.values.length+4096 *szT t<=100000000),none,.tup [.st .shape (bH (aa n) t e).1,.agg [.int .i64 (bH (aa n) t e).2.err,.int .i64 (bH (aa n) t e).2.pos]],[]⟩):=
 cJ BD fun t e ht he ho=>uB n t e ht he (ho _ rfl).1 (ho _ rfl).2.1 (ho _ rfl).2.2.1 (ho _ rfl).2.2.2 hA hF
theorem CL:aC prog 80:=ee func80
theorem wJ (n:Nat) (t:Trm) (e:Envt) (ht:Wf (.st .term) t) (he:Wf (.st .env) e) (hp:0 < t.parts.length) (hz:szT t<=n+1) (hf:allT ai t=true) (hv:e.values.length+4096 *szT t<=100000000) (hF:aj prog 144 (p3 (.st .term) (.st .shape) (.st .env) fun t w e=>⟨some (szT t<=n/\allT ai t=true/\e.values.length+4096 *szT t<=100000000),none,.agg [.int .i64 (az (aa n) t w e).err,.int .i64 (az (aa n) t w e).pos],[]⟩)):ay prog 80 [.st .term t,.st .env e] [] (⟨some (0 < t.parts.length/\szT t<=n+1/\allT ai t=true/\e.values.length+4096 *szT t<=100000000),none,.tup [.st .shape (cE (aa n) t e).1,.agg [.int .i64 (cE (aa n) t e).2.err,.int .i64 (cE (aa n) t e).2.pos]],[]⟩):=
 g0 (sc (hF) (sc jo (sc dA sn))) ⟨[(4,fun S0=>⟨Nat × Option Shape,fun x=>x.1<=e.own.length/\(x.2=none→cQ e.own t.name=cQ (e.own.take x.1) t.name)/\(∀s,x.2=some s→cQ e.own t.name=some s),fun x=>[(8,.int .i64 ((x.1:Int) - 1)),(7,.bool x.2.isSome)],fun x=>[(6,.box (.st .shape (x.2.elim ao aM)))],fun x=>x.1⟩)],[],[]⟩ func80 (CJ n t e ht he hp hz hf hv)
theorem BE (n:Nat) (hF:aj prog 144 (p3 (.st .term) (.st .shape) (.st .env) fun t w e=>⟨some (szT t<=n/\allT ai t=true/\e.values.length+4096 *szT t<=100000000),none,.agg [.int .i64 (az (aa n) t w e).err,.int .i64 (az (aa n) t w e).pos],[]⟩)):aj prog 80 (p2 (.st .term) (.st .env) fun t e=>⟨some (0 < t.parts.length/\szT t<=n+1/\allT ai t=true/\e.values.length+4096 *szT t<=100000000),none,.tup [.st .shape (cE (aa n) t e).1,.agg [.int .i64 (cE (aa n) t e).2.err,.int .i64 (cE (aa n) t e).2.pos]],[]⟩):=
 cJ CL fun t e ht he ho=>wJ n t e ht he (ho _ rfl).1 (ho _ rfl).2.1 (ho _ rfl).2.2.1 (ho _ rfl).2.2.2 hF
theorem zM:aC prog 81:=ee func81
theorem se (n:Nat) (t:Trm) (e:Envt) (ht:Wf (.st .term) t) (he:Wf (.st .env) e) (hk:t.kind=6∨t.kind=11∨t.kind=12∨t.kind=13∨t.kind=15) (hz:szT t<=n+1) (hf:allT ai t=true) (hv:e.values.length+4096 *szT t<=100000000) (hA:aj prog 30 (p2 (.st .term) (.st .env) fun t e=>⟨some (szT t<=n/\allT ai t=true/\e.values.length+4096 *szT t<=100000000),none,.tup [.st .shape (aa n t e).1,.agg [.int .i64 (aa n t e).2.err,.int .i64 (aa n t e).2.pos]],[]⟩)) (hF:aj prog 144 (p3 (.st .term) (.st .shape) (.st .env) fun t w e=>⟨some (szT t<=n/\allT ai t=true/\e.values.length+4096 *szT t<=100000000),none,.agg [.int .i64 (az (aa n) t w e).err,.int .i64 (az (aa n) t w e).pos],[]⟩)):ay prog 81 [.st .term t,.st .env e] [] (⟨some ((t.kind=6∨t.kind=11∨t.kind=12∨t.kind=13∨t.kind=15)/\szT t<=n+1/\allT ai t=true/\e.values.length+4096 *szT t<=100000000),none,.tup [.st .shape (aD (aa n) t e).1,.agg [.int .i64 (aD (aa n) t e).2.err,.int .i64 (aD (aa n) t e).2.pos]],[]⟩):=
 g0 (sc (hA) (sc (hF) (sc wI (sc sa (sc tY sn))))) ⟨[(8,fun S0=>⟨Nat × Envt,fun x=>x.1<=t.names.length/\x.2.values.length=e.values.length+x.1/\bA x.2 (dQ (t.names.drop x.1) ((ae e.types t.pos t.shapes).1.drop x.1))=bA e (dQ t.names (ae e.types t.pos t.shapes).1),fun x=>[(42,.int .i64 x.1)],fun x=>[(3,.box (.st .env x.2))],fun x=>t.names.length - x.1⟩),(16,fun S0=>⟨Nat,fun k=>k<=t.parts.length/\cv (aa n) e ((ae e.types t.pos t.shapes).1.getD 0 ao) (t.parts.drop k)=cv (aa n) e ((ae e.types t.pos t.shapes).1.getD 0 ao) t.parts,fun k=>[(77,.int .i64 k)],fun _=>[],fun k=>t.parts.length - k⟩),(37,fun S0=>⟨Nat × Flt,fun x=>x.1+1<=t.parts.length/\x.2.err=0/\x.2.pos=0/\eC (aa n) e ((ae e.types t.pos t.shapes).1.getD ((ae e.types t.pos t.shapes).1.length - 1) ao) (t.parts.drop (x.1+1)) (t.vars.drop x.1) ((ae e.types t.pos t.shapes).1.drop x.1)=eC (aa n) e ((ae e.types t.pos t.shapes).1.getD ((ae e.types t.pos t.shapes).1.length - 1) ao) (t.parts.drop 1) t.vars (ae e.types t.pos t.shapes).1,fun x=>[(180,.int .i64 x.1)],fun x=>[(7,.box (.agg [.int .i64 x.2.err,.int .i64 x.2.pos]))],fun x=>t.parts.length - x.1⟩)],[],[]⟩ func81 (zt n t e ht he hk hz hf hv)
theorem wK (n:Nat) (hA:aj prog 30 (p2 (.st .term) (.st .env) fun t e=>⟨some (szT t<=n/\allT ai t=true/\e.values.length+4096 *szT t<=100000000),none,.tup [.st .shape (aa n t e).1,.agg [.int .i64 (aa n t e).2.err,.int .i64 (aa n t e).2.pos]],[]⟩)) (hF:aj prog 144 (p3 (.st .term) (.st .shape) (.st .env) fun t w e=>⟨some (szT t<=n/\allT ai t=true/\e.values.length+4096 *szT t<=100000000),none,.agg [.int .i64 (az (aa n) t w e).err,.int .i64 (az (aa n) t w e).pos],[]⟩)):aj prog 81 (p2 (.st .term) (.st .env) fun t e=>⟨some ((t.kind=6∨t.kind=11∨t.kind=12∨t.kind=13∨t.kind=15)/\szT t<=n+1/\allT ai t=true/\e.values.length+4096 *szT t<=100000000),none,.tup [.st .shape (aD (aa n) t e).1,.agg [.int .i64 (aD (aa n) t e).2.err,.int .i64 (aD (aa n) t e).2.pos]],[]⟩):=
 cJ zM fun t e ht he ho=>se n t e ht he (ho _ rfl).1 (ho _ rfl).2.1 (ho _ rfl).2.2.1 (ho _ rfl).2.2.2 hA hF
theorem zN:aC prog 49:=ee func49
theorem sf (n:Nat) (t:Trm) (e:Envt) (ht:Wf (.st .term) t) (he:Wf (.st .env) e) (hz:szT t<=n+1) (hf:allT ai t=true) (hv:e.values.length+4096 *szT t<=100000000) (hA:aj prog 30 (p2 (.st .term) (.st .env) fun t e=>⟨some (szT t<=n/\allT ai t=true/\e.values.length+4096 *szT t<=100000000),none,.tup [.st .shape (aa n t e).1,.agg [.int .i64 (aa n t e).2.err,.int .i64 (aa n t e).2.pos]],[]⟩)) (hF:aj prog 144 (p3 (.st .term) (.st .shape) (.st .env) fun t w e=>⟨some (szT t<=n/\allT ai t=true/\e.values.length+4096 *szT t<=100000000),none,.agg [.int .i64 (az (aa n) t w e).err,.int .i64 (az (aa n) t w e).pos],[]⟩)):ay prog 49 [.st .term t,.st .env e] [] (⟨some (szT t<=n+1/\allT ai t=true/\e.values.length+4096 *szT t<=100000000),none,.tup [.st .shape (an (aa n) t e).1,.agg [.int .i64 (an (aa n) t e).2.err,.int .i64 (an (aa n) t e).2.pos]],[]⟩):=
 g0 (sc (hA) (sc sa (sc dA (sc zI (sc tY (sc ((zL n hA hF)) (sc ((wH n hA)) (sc ((BE n hF)) (sc ((wK n hA hF)) sn))))))))) ⟨[(19,fun S0=>⟨Nat × List AL.Shape,fun x=>x.1<=t.parts.length/\x.2.length=x.1/\ck (aa n) e t.parts=(x.2++(ck (aa n) e (t.parts.drop x.1)).1,(ck (aa n) e (t.parts.drop x.1)).2),fun x=>[(67,.int .i64 x.1)],fun x=>[(8,.box (.agg [.int .i64 6,.str [],.str [],.lst .str t.names none,.lst (.st .shape) x.2 (some 701)])),(701,.tail (.st .shape) x.2.length)],fun x=>t.parts.length - x.1⟩)],[],[(7,fun S0=>⟨[(27,.bool (decide (t.kind=3) || decide (t.kind=4)))],[]⟩)]⟩ func49 (zu n t e ht he hz hf hv)
theorem qA:∀n:Nat,aj prog 30 (p2 (.st .term) (.st .env) fun t e=>⟨some (szT t<=n/\allT ai t=true/\e.values.length+4096 *szT t<=100000000),none,.tup [.st .shape (aa n t e).1,.agg [.int .i64 (aa n t e).2.err,.int .i64 (aa n t e).2.pos]],[]⟩)
 | 0=>cJ qz fun t e ht he ho=>absurd (szT_pos t) (by have:=(ho _ rfl).1;omega)
 | n+1=>
  have hA:=qA n
  have hF:=zJ n hA
  cJ qz fun t e ht he ho=>sb n t e ht he (ho _ rfl).1 (ho _ rfl).2.1 (ho _ rfl).2.2 (cJ zN fun t e ht he ho=>sf n t e ht he (ho _ rfl).1 (ho _ rfl).2.1 (ho _ rfl).2.2 hA hF)
theorem zO:aj prog 12 (p2 (.st .term) (.st .env) fun t e=>⟨some (fewT t=true/\e.values.length<=1000000),none,.tup [.st .shape (bV t e).1,.agg [.int .i64 (bV t e).2.err,.int .i64 (bV t e).2.pos]],[]⟩):=
 cJ (ee func12) fun t e ht he ho=>g0 (sc pd (sc dA (sc ((qA (szT t))) sn))) a0 func12 (Bu t e ht he (ho _ rfl))
theorem uC:aj prog 10 (p1 (.st .term) fun t=>.ret (.bool (decide (dj t 300<=300)))):=
 bY (ee func10) fun t ht _=>g0 (sc (zF (szT t)) sn) a0 func10 (wi t ht)
theorem l6 (G:Trm→Envt→Shape × Flt) (N:Nat) (t:Trm) (e:Envt) (m:Str) (ht:Wf (.st .term) t) (he:Wf (.st .env) e) (hf:fewT t=true) (hm:Wf .str m) (hN:sz (G t e).1<=N) (hl:bF (mL m t)=0→G (mL m t) e=G t e) (hc:bF (dF t)=0→¬((G (dF t) e).2.err=3∨(G (dF t) e).2.err=91)→G (dF t) e=G t e) (hG:aj prog 12 (p2 (.st .term) (.st .env) fun t e=>⟨some (fewT t=true/\e.values.length<=1000000),none,.tup [.st .shape (G t e).1,.agg [.int .i64 (G t e).2.err,.int .i64 (G t e).2.pos]],[]⟩)) (hW:aj prog 11 (p0 (.ret (.bool true)))):ay prog 6 [.st .term t,.st .env e,.str m] [] (.ret (.bool true)):=
 g0 (sc tX (sc uC (sc (hW) (sc (hG) (sc pd (sc (wq N) sn)))))) a0 func6 (oX G N t e m ht he hf hm hN hl hc)
end Go.AL.Seat
end
noncomputable section
namespace Go.AL
def evN {α:Type} (n:Nat) (k:Nat→α):α:=match n with | 0=>k 0 | m+1=>k (m+1)
def evI {α:Type} (n:Int) (k:Int→α):α:=match n with | .ofNat m=>evN m fun m=>k (.ofNat m) | .negSucc m=>evN m fun m=>k (.negSucc m)
def evL {α β:Type}:List β→(List β→α)→α
 | [],k=>k []
 | a ::r,k=>evL r fun r=>k (a ::r)
theorem gD {α:Type} (n:Nat) (k:Nat→α):evN n k=k n:=by cases n <;> rfl
theorem BF {α:Type} (n:Int) (k:Int→α):evI n k=k n:=by
 cases n <;> (unfold evI;exact gD _ _)
theorem eQ {α β:Type}:∀(l:List β) (k:List β→α),evL l k=k l
 | [],_=>rfl
 | a ::r,k=>by rw [evL,eQ r]
mutual
def evV {α:Type}:AV→(AV→α)→α
 | .int κ n,k=>evI n fun n=>k (.int κ n)
 | .bool true,k=>k (.bool true)
 | .bool false,k=>k (.bool false)
 | .str s,k=>evL s fun s=>k (.str s)
 | .lst τ xs none,k=>evL xs fun xs=>k (.lst τ xs none)
 | .lst τ xs (some i),k=>evL xs fun xs=>k (.lst τ xs (some i))
 | .row τ xs,k=>evL xs fun xs=>k (.row τ xs)
 | .arr i n w,k=>evN n fun n=>k (.arr i n w)
 | .aptr i n w o,k=>evN n fun n=>evN o fun o=>k (.aptr i n w o)
 | .cptr c,k=>evV c fun c=>k (.cptr c)
 | .agg cs,k=>evVs cs fun cs=>k (.agg cs)
 | .tup cs,k=>evVs cs fun cs=>k (.tup cs)
 | .fn f cs,k=>evVs cs fun cs=>k (.fn f cs)
 | .iface t a,k=>evV a fun a=>k (.iface t a)
 | .lstp τ xs i,k=>evL xs fun xs=>k (.lstp τ xs i)
 | .undef,k=>k .undef
 | .nils,k=>k .nils
 | .ptr i o,k=>k (.ptr i o)
 | .nilp,k=>k .nilp
 | .st n x,k=>k (.st n x)
 | .map i,k=>k (.map i)
 | .bptr i,k=>k (.bptr i)
 | .nilif,k=>k .nilif
 | .nilm,k=>k .nilm
 | .pt n x,k=>k (.pt n x)
 | .tptr τ n i,k=>k (.tptr τ n i)
def evVs {α:Type}:List AV→(List AV→α)→α
 | [],k=>k []
 | a ::r,k=>evV a fun a=>evVs r fun r=>k (a ::r)
end
mutual
theorem evV_eq {α:Type}:∀(a:AV) (k:AV→α),evV a k=k a
 | .int κ n,k=>by rw [evV,BF]
 | .bool true,k=>rfl
 | .bool false,k=>rfl
 | .str s,k=>by rw [evV,eQ]
 | .lst τ xs none,k=>by rw [evV,eQ]
 | .lst τ xs (some i),k=>by rw [evV,eQ]
 | .row τ xs,k=>by rw [evV,eQ]
 | .arr i n w,k=>by rw [evV,gD]
 | .aptr i n w o,k=>by rw [evV,gD,gD]
 | .cptr c,k=>by rw [evV,evV_eq c]
 | .agg cs,k=>by rw [evV,evVs_eq cs]
 | .tup cs,k=>by rw [evV,evVs_eq cs]
 | .fn f cs,k=>by rw [evV,evVs_eq cs]
 | .iface t a,k=>by rw [evV,evV_eq a]
 | .lstp τ xs i,k=>by rw [evV,eQ]
 | .undef,k=>rfl
 | .nils,k=>rfl
 | .ptr _ _,k=>rfl
 | .nilp,k=>rfl
 | .st _ _,k=>rfl
 | .map _,k=>rfl
 | .bptr _,k=>rfl
 | .nilif,k=>rfl
 | .nilm,k=>rfl
 | .pt _ _,k=>rfl
 | .tptr _ _ _,k=>rfl
theorem evVs_eq {α:Type}:∀(l:List AV) (k:List AV→α),evVs l k=k l
 | [],k=>rfl
 | a ::r,k=>by rw [evVs,evV_eq a,evVs_eq r]
end
def evA {α:Type} (a:AV) (k:AV→α):α:=
 match a with
 | .int κ n=>evI n fun n=>k (.int κ n)
 | .bool b=>(match b with | true=>k (.bool true) | false=>k (.bool false))
 | .str s=>evL s fun s=>k (.str s)
 | .lst τ xs o=>evL xs fun xs=>(match o with | none=>k (.lst τ xs none) | some i=>k (.lst τ xs (some i)))
 | .row τ xs=>evL xs fun xs=>k (.row τ xs)
 | .arr i n w=>evN n fun n=>k (.arr i n w)
 | .aptr i n w o=>evN n fun n=>evN o fun o=>k (.aptr i n w o)
 | .ptr i o=>evN o fun o=>k (.ptr i o)
 | .cptr c=>evV c fun c=>k (.cptr c)
 | .agg cs=>evVs cs fun cs=>k (.agg cs)
 | .tup cs=>evVs cs fun cs=>k (.tup cs)
 | .fn f cs=>evVs cs fun cs=>k (.fn f cs)
 | .iface t a=>evV a fun a=>k (.iface t a)
 | .lstp τ xs i=>evL xs fun xs=>k (.lstp τ xs i)
 | a=>k a
theorem Dx {α:Type} (a:AV) (k:AV→α):evA a k=k a:=by
 unfold evA
 split
 ·exact BF _ _
 ·split <;> rfl
 ·exact eQ _ _
 ·rw [eQ];split <;> rfl
 ·exact eQ _ _
 ·exact gD _ _
 ·rw [gD,gD]
 ·exact gD _ _
 ·exact evV_eq _ _
 ·exact evVs_eq _ _
 ·exact evVs_eq _ _
 ·exact evVs_eq _ _
 ·exact evV_eq _ _
 ·exact eQ _ _
 ·rfl
def evO {α:Type}:SObj→(SObj→α)→α
 | .box c,k=>evV c fun c=>k (.box c)
 | .tail τ n,k=>evN n fun n=>k (.tail τ n)
 | .map κ τ m,k=>evL m fun m=>k (.map κ τ m)
 | .bld t u l,k=>evL l fun l=>k (.bld t u l)
 | .tailp τ n x,k=>evN n fun n=>k (.tailp τ n x)
theorem Dy {α:Type} (o:SObj) (k:SObj→α):evO o k=k o:=by
 cases o with
 | box c=>exact evV_eq _ _
 | tail τ n=>unfold evO;exact gD _ _
 | map κ τ m=>exact eQ _ _
 | bld t u l=>exact eQ _ _
 | tailp τ n x=>unfold evO;exact gD _ _
def evB {α:Type}:List (Nat × SObj)→(List (Nat × SObj)→α)→α
 | [],k=>k []
 | (i,o) ::r,k=>evO o fun o=>evB r fun r=>k ((i,o) ::r)
theorem sg {α:Type}:∀(l:List (Nat × SObj)) (k:List (Nat × SObj)→α),evB l k=k l
 | [],k=>rfl
 | (i,o) ::r,k=>by rw [evB,Dy,sg r]
def evS {α:Type} (s:St) (k:St→α):α:=evL s.t fun t=>evB s.b fun b=>k ⟨t,b⟩
theorem BG {α:Type} (s:St) (k:St→α):evS s k=k s:=by rw [evS,eQ,sg]
theorem zP {ob:Option DP} {q:Prop} (h:okO ob=true) (hq:q):pS ob q:=by
 cases ob with
 | none=>exact hq
 | some d=>exact ⟨d.h h,hq⟩
def xD {α:Sort _} (ops:List Oper) (o:Oper) (T:Nat→AV) (bad:α) (on off:Unit→α):α:=
 match o.guard with
 | none=>on ()
 | some (j,want)=>
  match (nth ops j).bind (·.dst) with
  | none=>bad
  | some d=>
   match T d with
   | .bool true=>if want then on () else off ()
   | .bool false=>if want then off () else on ()
   | .tup []=>off ()
   | _=>bad
theorem wL {α:Type} {ops:List Oper} {o:Oper} {T:Nat→AV} {y:α} {on off:Unit→Option α} {on' off':Unit→Prop} (hon:on ()=some y→on' ()) (hoff:off ()=some y→off' ())
  (h:xD ops o T none on off=some y):xD ops o T False on' off':=by
 unfold xD at h ⊢
 cases hg:o.guard with
 | none=>simp only [hg] at h ⊢;exact hon h
 | some p=>
  obtain ⟨j,want⟩:=p
  simp only [hg] at h ⊢
  cases hd:(nth ops j).bind (·.dst) with
  | none=>simp only [hd] at h;cases h
  | some d=>
   simp only [hd] at h ⊢
   generalize T d=v at h ⊢
   split at h
   ·split at h
    ·rename_i hw;exact (if_pos hw).symm ▸ hon h
    ·rename_i hw;exact (if_neg hw).symm ▸ hoff h
   ·split at h
    ·rename_i hw;exact (if_pos hw).symm ▸ hoff h
    ·rename_i hw;exact (if_neg hw).symm ▸ hon h
   ·exact hoff h
   ·cases h
def gdB (ops:List Oper) (g:Bool) (i:Nat):Bool:=match g with | true=>eU ops i | false=>false
def BH (ops:List Oper):Bool:=ops.any fun o=>o.guard.isSome
theorem Dz (ops:List Oper) (i:Nat):gdB ops (BH ops) i=eU ops i:=by
 unfold gdB
 cases h:BH ops with
 | true=>rfl
 | false=>
  show false=eU ops i
  symm
  unfold BH at h
  rw [List.any_eq_false] at h
  unfold eU
  rw [List.any_eq_false]
  intro o ho
  have:=h o ho
  cases hg:o.guard with
  | none=>simp
  | some x=>rw [hg] at this;exact absurd rfl this
def uD (C:Cfg) (ops:List Oper) (g:Bool):List Oper→Nat→St→List cR→Option (St × List cR)
 | [],_,s,fs=>some (s,fs.reverse)
 | o ::r,i,s,fs=>
  xD ops o (b8 s.t) none
   (fun _=>
    match aF C o (b8 s.t) (aw s.b) with
    | none=>none
    | some e=>
     match okO e.ob,cX C o (b8 s.t) (aw s.b) with
     | true,none=>
      (match gdB ops g i,e.val with
      | true,.bool b=>(match b with
       | true=>uD C ops g r (i+1) ⟨mI s.t o.dst (.bool true),bW s.b e.upd⟩ ((aQ C o (b8 s.t) (aw s.b),e.upd.map (·.1)) ::fs)
       | false=>uD C ops g r (i+1) ⟨mI s.t o.dst (.bool false),bW s.b e.upd⟩ ((aQ C o (b8 s.t) (aw s.b),e.upd.map (·.1)) ::fs))
      | true,_=>none
      | false,v=>evA v fun v=>uD C ops g r (i+1) ⟨mI s.t o.dst v,bW s.b e.upd⟩ ((aQ C o (b8 s.t) (aw s.b),e.upd.map (·.1)) ::fs))
     | _,_=>none)
   (fun _=>uD C ops g r (i+1) ⟨mI s.t o.dst (.tup []),s.b⟩ (([],[]) ::fs))
theorem xE {C:Cfg} {ops:List Oper} {draw:Bool} {kp:AV→St→Prop} {k:St→List cR→Prop} {s':St} {fs':List cR} (hk:k s' fs') :
  ∀(l:List Oper) (i:Nat) (s:St) (fs:List cR),uD C ops (BH ops) l i s fs=some (s',fs')→bE C ops draw kp l i s fs k
 | [],_,s,fs,h=>by
  simp only [uD,Xs,Prod.mk.injEq] at h
  obtain ⟨rfl,rfl⟩:=h
  exact hk
 | o ::r,i,s,fs,h=>by
  have ih:=xE (C:=C) (ops:=ops) (draw:=draw) (kp:=kp) hk r
  rw [uD,Dz] at h
  refine wL (on':=fun _=>
   match aF C o (b8 s.t) (aw s.b) with
   | none=>False
   | some e=>
    pS e.ob
    (match cX C o (b8 s.t) (aw s.b) with
    | none=>
     (match eU ops i,e.val with
     | true,.bool b=>
      sp b (bE C ops draw kp r (i+1) (s.put o.dst {e with val:=.bool true}) ((aQ C o (b8 s.t) (aw s.b),e.upd.map (·.1)) ::fs) k)
       (bE C ops draw kp r (i+1) (s.put o.dst {e with val:=.bool false}) ((aQ C o (b8 s.t) (aw s.b),e.upd.map (·.1)) ::fs) k)
     | true,_=>False
     | false,_=>bE C ops draw kp r (i+1) (s.put o.dst e) ((aQ C o (b8 s.t) (aw s.b),e.upd.map (·.1)) ::fs) k)
    | some (b,pv,u)=>
     (match draw || eU ops i with
     | true=>False
     | false=>sp b (kp pv ⟨s.t,bW s.b u⟩) (bE C ops draw kp r (i+1) (s.put o.dst e) ((aQ C o (b8 s.t) (aw s.b),e.upd.map (·.1)) ::fs) k))))
   (off':=fun _=>bE C ops draw kp r (i+1) ⟨mI s.t o.dst (.tup []),s.b⟩ (([],[]) ::fs) k) ?_ (fun h=>ih _ _ _ h) h
  intro h
  split at h
  ·cases h
  ·rename_i e he
   split at h
   ·rename_i ho hp
    refine zP ho ?_
    try simp only [hp]
    split at h
    ·rename_i b hg hv
     try simp only [hg,hv]
     split at h
     ·exact ih _ _ _ h
     ·exact ih _ _ _ h
    ·cases h
    ·rename_i v hg
     simp only [Dx] at h
     try simp only [hg]
     exact ih _ _ _ h
   ·cases h
def CM (ops:List Oper) (i j:Nat):Bool:=((qP ops).getD j 0).testBit i
def jX:Nat→List cR→List (Nat × cR)
 | _,[]=>[]
 | i,f ::r=>match f with | ([],[])=>jX (i+1) r | f=>(i,f) ::jX (i+1) r
def lO (ops:List Oper):List (Nat × cR)→Bool
 | []=>true
 | x ::r=>r.all (fun p=>CM ops x.1 p.1 || fQ x.2 p.2) && lO ops r
def xF (ops:List Oper):Bool:=
 ((List.range ops.length).all fun j=>(List.range j).all fun i=>CM ops i j || (match nth ops i,nth ops j with | some x,some y=>nv ops x y | _,_=>false)) &&
 (ops.zipIdx.all fun (o,j)=>o.after.all fun e=>!Region.binds .any e || Nat.blt e.on j)
def wM (ops:List Oper) (fs:List cR):Bool:=xF ops && dY fs ops.length && lO ops (jX 0 fs)
theorem ph {α:Type}:∀{l:List α} {i:Nat},i < l.length→∃x,nth l i=some x
 | a ::_,0,_=>⟨a,rfl⟩
 | _ ::r,i+1,h=>ph (l:=r) (Nat.lt_of_succ_lt_succ h)
theorem qB:∀{fs:List cR} {i0 k:Nat} {f:cR},nth fs k=some f→f≠([],[])→(i0+k,f)∈jX i0 fs
 | g ::r,i0,0,f,h,hf=>by
  cases h
  unfold jX
  split
  ·exact absurd rfl hf
  ·exact List.mem_cons_self ..
 | g ::r,i0,k+1,f,h,hf=>by
  have ih:=qB (fs:=r) (i0:=i0+1) (k:=k) h hf
  rw [show i0+(k+1)=i0+1+k by omega]
  unfold jX
  split
  ·exact ih
  ·exact List.mem_cons_of_mem _ ih
theorem mF {ops:List Oper}:∀{fs:List cR} {i0 a b:Nat} {f g:cR},lO ops (jX i0 fs)=true→a < b→nth fs a=some f→nth fs b=some g→f≠([],[])→g≠([],[])→(CM ops (i0+a) (i0+b) || fQ f g)=true
 | x ::r,i0,0,b+1,f,g,h,_,hf,hg,h1,h2=>by
  cases hf
  have hm:=qB (fs:=r) (i0:=i0+1) (k:=b) hg h2
  unfold jX at h
  split at h
  ·exact absurd rfl h1
  ·unfold lO at h
   rw [Bool.and_eq_true,List.all_eq_true] at h
   have:=h.1 _ hm
   rwa [show i0+1+b=i0+(b+1) by omega] at this
 | x ::r,i0,a+1,b+1,f,g,h,hab,hf,hg,h1,h2=>by
  have hr:lO ops (jX (i0+1) r)=true:=by
   unfold jX at h
   split at h
   ·exact h
   ·unfold lO at h
    rw [Bool.and_eq_true] at h
    exact h.2
  have:=mF (fs:=r) (i0:=i0+1) (a:=a) (b:=b) hr (by omega) hf hg h1 h2
  rwa [show i0+1+a=i0+(a+1) by omega,show i0+1+b=i0+(b+1) by omega] at this
theorem wN (g:cR):fQ ([],[]) g=true:=by
 unfold fQ sx
 simp
theorem uE (f:cR):fQ f ([],[])=true:=by
 unfold fQ sx
 simp
theorem l7 {α:Type}:∀{l:List α} {n:Nat},dY l n=true→l.length=n
 | [],0,_=>rfl
 | _ ::r,n+1,h=>by rw [List.length_cons,l7 (l:=r) h]
theorem zQ {ops:List Oper} {fs:List cR} (h:wM ops fs=true):dH ops fs=true:=by
 unfold wM xF at h
 simp only [Bool.and_eq_true,List.all_eq_true,List.mem_range] at h
 obtain ⟨⟨⟨h1,h2⟩,h3⟩,h4⟩:=h
 have hl:=l7 h3
 unfold dH
 rw [Bool.and_eq_true]
 refine ⟨?_,by rw [List.all_eq_true];intro p hp;have:=h2 p hp;exact (by obtain ⟨o,j⟩:=p;simpa using this)⟩
 rw [List.all_eq_true]
 intro j hj
 rw [List.all_eq_true]
 intro i hi
 rw [List.mem_range] at hj hi
 have k:=h1 j hj i hi
 rw [Bool.or_eq_true] at k ⊢
 rcases k with k | k
 ·exact .inl k
 obtain ⟨x,hx⟩:=ph (l:=ops) (i:=i) (by omega)
 obtain ⟨y,hy⟩:=ph (l:=ops) (i:=j) hj
 obtain ⟨f,hf⟩:=ph (l:=fs) (i:=i) (by omega)
 obtain ⟨g,hg⟩:=ph (l:=fs) (i:=j) (by omega)
 rw [hx,hy] at k
 rw [hx,hy,hf,hg]
 have q:CM ops i j=true∨fQ f g=true:=by
  by_cases c1:f=([],[])
  ·rw [c1];exact .inr (wN g)
  ·by_cases c2:g=([],[])
   ·rw [c2];exact .inr (uE f)
   ·have:=mF h4 hi hf hg c1 c2
    rw [Nat.zero_add,Nat.zero_add,Bool.or_eq_true] at this
    exact this
 rcases q with q | q
 ·exact .inl q
 ·exact .inr (by rw [Bool.and_eq_true];exact ⟨k,q⟩)
end Go.AL
end
noncomputable section
namespace Go.AL
variable [Tabs]
def BI:List (Nat × SObj)→Nat→Nat
 | [],m=>m *1000+998
 | (i,_) ::r,m=>BI r (match Nat.ble m (i / 1000) with | true=>i / 1000+1 | false=>m)
def sh:List Nat→St→Option St
 | [],s=>some s
 | i ::r,s=>(match C2 i (BI s.b 100) s with | some s=>sh r s | none=>none)
theorem l8 {F:Fr} {a:Act}:∀(l:List Nat) {s s':St} {Ω:Om},Holds F s.abs a Ω→sh l s=some s'→∃Ω',Ω'.w=Ω.w/\Holds F s'.abs a Ω'
 | [],s,s',Ω,h,hr=>by cases hr;exact ⟨Ω,rfl,h⟩
 | i ::r,s,s',Ω,h,hr=>by
  unfold sh at hr
  split at hr
  ·rename_i s1 h1
   obtain ⟨Ω1,e1,g1⟩:=oj h h1
   obtain ⟨Ω2,e2,g2⟩:=l8 r g1 hr
   exact ⟨Ω2,e2.trans e1,g2⟩
  ·cases hr
def wO (ops:List Oper) (s:St):Option St:=
 match enter ops s with
 | some s'=>some s'
 | none=>(match sh ((s.b.map (·.1)).filter fun i=>xb (ny ops) (qQ ops) i && !bw i) s with | some s'=>enter ops s' | none=>none)
theorem sk {F:Fr} {ops:List Oper} {s s':St} {a:Act} {Ω:Om} (h:Holds F s.abs a Ω) (he:wO ops s=some s'):∃Ω',Ω'.w=Ω.w/\Holds F s'.abs a Ω':=by
 unfold wO at he
 split at he
 ·rename_i s1 h1;cases he;exact ja h h1
 ·split at he
  ·rename_i s1 h1
   obtain ⟨Ω1,e1,g1⟩:=l8 _ h h1
   obtain ⟨Ω2,e2,g2⟩:=ja g1 he
   exact ⟨Ω2,e2.trans e1,g2⟩
  ·cases he
end Go.AL
end
noncomputable section
namespace Go.AL
def BJ (k:Nat) (s:St):Option St:=
 match aw s.b k with
 | some (.tailp τ n x)=>
  if ((s.t.flatMap (fun y=>lensV k y.2)++s.b.flatMap (fun y=>CR k y.2)).all fun m=>Nat.beq m n)=true then
   some ⟨s.t.map fun y=>(y.1,finV k τ x y.2),(mH s.b k (.tail τ (n+1))).map fun y=>(y.1,xP k τ x y.2)⟩ else none
 | _=>some s
def xG:List Nat→St→Option St
 | [],s=>some s
 | k ::r,s=>(match BJ k s with | some s=>xG r s | none=>none)
theorem qC {n:Nat} {q:Prop} (hq:q):∀l:List Nat,(l.all fun m=>Nat.beq m n)=true→qR n l q
 | [],_=>hq
 | m ::r,h=>by
  rw [List.all_cons,Bool.and_eq_true] at h
  exact ⟨Nat.eq_of_beq_eq_true h.1,qC hq r h.2⟩
theorem BK {k:Nat} {s s':St} {Q:St→Prop} (h:BJ k s=some s') (hq:Q s'):uU k s Q:=by
 unfold BJ at h
 unfold uU
 generalize hb:aw s.b k=b at h ⊢
 cases b with
 | none=>cases h;exact hq
 | some o=>
  cases o with
  | tailp τ n x=>
   dsimp only at h ⊢
   split at h
   ·rename_i ha
    cases h
    exact qC hq _ ha
   ·cases h
  | _=>cases h;exact hq
theorem uF {Q:St→Prop} {s':St} (hq:Q s'):∀(l:List Nat) (s:St),xG l s=some s'→uV l s Q
 | [],s,h=>by cases h;exact hq
 | k ::r,s,h=>by
  unfold xG at h
  split at h
  ·rename_i s1 h1
   exact BK h1 (uF hq r s1 h)
  ·cases h
def trimM (keep:Nat) (s:St):St:=⟨s.t.filter fun x=>Nat.beq (Nat.land (Nat.shiftRight keep x.1) 1) 1,s.b⟩
def DA (C:Cfg) (keep:Nat) (ops:Array Oper) (draw:Bool) (s:St):Option St:=
 match uD C ops.toList (BH ops.toList) ops.toList 0 s [] with
 | none=>none
 | some (s,fs)=>
  match xG (mS s.b) s with
  | none=>none
  | some s=>
   match draw with
   | false=>evS (trimM keep s) some
   | true=>(match wM ops.toList fs with | true=>evS (trimM keep s) some | false=>none)
theorem Holds.trimM [Tabs] {F:Fr} {s:St} {a:Act} {Ω:Om} (h:Holds F s.abs a Ω) (keep:Nat):Holds F (trimM keep s).abs a Ω:=by
 refine ⟨fun i=>?_,h.size,h.defers,h.slots,h.dom,h.inj,h.pubok,h.keep,h.frame⟩
 have e:(AL.trimM keep s).abs.T i=if Nat.beq (Nat.land (Nat.shiftRight keep i) 1) 1=true then b8 s.t i else .undef:=gn s.t (fun i=>Nat.beq (Nat.land (Nat.shiftRight keep i) 1) 1) i
 rw [e]
 split
 ·exact h.tmps i
 ·exact .undef _
theorem wP [Tabs] {P:Program} {C:Cfg} {F:Fr} (hm:P.follows .mixedOrders=true) (hT:ba P C.tbl) (hS:bM P C.spec) {keep:Nat} {id:Nat} {ops:Array Oper} {draw:Bool} {s s':St} {a:Act} {Ω:Om}
  (hdst:∀(o:Oper),o∈ops.toList→∀d,o.dst=some d→d < F.n) (h:DA C keep ops draw s=some s') (hh:Holds F s.abs a Ω):(Code.region id ops draw).wp P (QL F fun y t=>y=.normal/\t=s') a Ω.w:=by
 have key:bE C ops.toList draw (fun _ _=>False) ops.toList 0 s [] fun s2 fs=>D8 s2 fun s3=>s'=trimM keep s3/\(draw=true→dH ops.toList fs=true):=by
  unfold DA at h
  split at h
  ·cases h
  ·rename_i s1 fs h1
   refine xE ?_ _ _ _ _ h1
   split at h
   ·cases h
   ·rename_i s2 h2
    refine uF ?_ _ _ h2
    split at h
    ·rw [BG] at h
     cases h
     exact ⟨rfl,fun q=>by cases q⟩
    ·split at h
     ·rename_i hi
      rw [BG] at h
      cases h
      exact ⟨rfl,fun _=>zQ hi⟩
     ·cases h
 refine kH hm hT hS hdst key (fun hdr s2 fs hk=>let ⟨s3,h3⟩:=lF _ hk;h3.2 hdr) hh (fun s2 fs a' Ω' hk h'=>
   let ⟨s3,Ω3,g1,g2,g3⟩:=oh h' hk
   ⟨.normal,trimM keep s3,Ω3,rfl,g1,g2.trimM keep,rfl,g3.1.symm⟩)
  (fun pv s2 a' Ω' v hk _ _=>hk.elim)
def xH (f:St→Option (SX × St)):Nat→St→Option (SX × St)
 | 0,_=>none
 | n+1,s=>
  match f s with
  | some (.normal,s')=>xH f n s'
  | r=>r
def gX (C:Cfg) (keep:Nat) (pubs:List (Nat × List Nat)) (N:Nat):Code→St→Option (SX × St)
 | .skip,s=>some (.normal,s)
 | .seq a b,s=>
  (match gX C keep pubs N a s with
  | some (.normal,s')=>gX C keep pubs N b s'
  | r=>r)
 | .cond c a b,s=>
  (match opd (b8 s.t) c with
  | .bool true=>gX C keep pubs N a s
  | .bool false=>gX C keep pubs N b s
  | _=>none)
 | .block id c,s=>
  (match gX C keep pubs N c s with
  | some (.exit j,s')=>if j ==id then some (.normal,s') else some (.exit j,s')
  | r=>r)
 | .exit id,s=>some (.exit id,s)
 | .scope c,s=>gX C keep pubs N c s
 | .label _,s=>some (.normal,s)
 | .ret,s=>some (.ret,s)
 | .region id ops draw,s=>
  (match lk (sA pubs id) s with
  | none=>none
  | some s=>
   match wO ops.toList s with
   | none=>none
   | some s=>
    match DA C keep ops draw s with
    | some s=>some (.normal,s)
    | none=>none)
 | .loop c,s=>xH (gX C keep pubs N c) N s
 | _,_=>none
variable [Tabs]
variable {P:Program} {C:Cfg} {F:Fr}
theorem wQ (hm:P.follows .mixedOrders=true) (hT:ba P C.tbl) (hS:bM P C.spec) (keep:Nat) (pubs:List (Nat × List Nat)) (N:Nat) :
  ∀(c:Code) (s:St) (x:SX) (s':St) (a:Act) (Ω:Om),gX C keep pubs N c s=some (x,s')→bB F.n c=true→Holds F s.abs a Ω→c.wp P (QL F fun y t=>y=x/\t=s') a Ω.w:=by
 intro c
 induction c with
 | skip=>intro s x s' a Ω h _ hh;cases h;exact wp_skip ⟨.normal,s,Ω,rfl,rfl,hh,rfl,rfl⟩
 | region id ops draw=>
  intro s x s' a Ω h hd hh
  unfold gX at h
  split at h
  ·cases h
  ·rename_i s0 h0
   obtain ⟨Ω0,e0,g0⟩:=iw _ hh h0
   split at h
   ·cases h
   ·rename_i s1 h1
    obtain ⟨Ω1,e1,g1⟩:=sk g0 h1
    have hdst:∀(o:Oper),o∈ops.toList→∀d,o.dst=some d→d < F.n:=by
     intro o ho d hod
     simp only [bB,List.all_eq_true] at hd
     have:=hd o ho
     rw [hod] at this
     simpa using this
    split at h
    ·rename_i s2 h2
     cases h
     rw [←e0,←e1]
     exact wP hm hT hS hdst h2 g1
    ·cases h
 | seq x y ihx ihy=>
  intro s z s' a Ω h hd hh
  simp only [bB,Bool.and_eq_true] at hd
  unfold gX at h
  cases h1:gX C keep pubs N x s with
  | none=>rw [h1] at h;cases h
  | some r=>
   obtain ⟨e1,s1⟩:=r
   rw [h1] at h
   refine wp_seq (wp_mono (ihx s e1 s1 a Ω h1 hd.1 hh) ?_)
   intro e a' w' hq
   obtain ⟨e2,s2,Ω',g1,g2,g3,g4,g5⟩:=hq
   subst g2 g4 g5
   cases e2 with
   | normal=>cases g1;exact ihy _ z s' a' Ω' h hd.2 g3
   | exit id=>cases g1;cases h;exact ⟨.exit id,_,Ω',rfl,rfl,g3,rfl,rfl⟩
   | ret=>cases g1;cases h;exact ⟨.ret,_,Ω',rfl,rfl,g3,rfl,rfl⟩
   | pan pv=>obtain ⟨v,rfl,hv⟩:=g1;cases h;exact ⟨.pan pv,_,Ω',⟨v,rfl,hv⟩,rfl,g3,rfl,rfl⟩
 | cond c x y ihx ihy=>
  intro s z s' a Ω h hd hh
  simp only [bB,Bool.and_eq_true] at hd
  unfold gX at h
  have hv:=bj hh c
  split at h
  ·rename_i hb
   have hb':opd s.abs.T c=.bool true:=hb
   rw [hb'] at hv
   exact wp_cond hv.bool_inv (ihx _ z s' a Ω h hd.1 hh)
  ·rename_i hb
   have hb':opd s.abs.T c=.bool false:=hb
   rw [hb'] at hv
   exact wp_cond hv.bool_inv (ihy _ z s' a Ω h hd.2 hh)
  ·cases h
 | block id c ih=>
  intro s z s' a Ω h hd hh
  simp only [bB] at hd
  unfold gX at h
  cases h1:gX C keep pubs N c s with
  | none=>rw [h1] at h;cases h
  | some r=>
   obtain ⟨e1,s1⟩:=r
   rw [h1] at h
   refine wp_block (wp_mono (ih s e1 s1 a Ω h1 hd hh) ?_)
   intro e a' w' hq
   obtain ⟨e2,s2,Ω',g1,g2,g3,g4,g5⟩:=hq
   subst g2 g4 g5
   cases e2 with
   | normal=>cases g1;cases h;exact ⟨.normal,_,Ω',rfl,rfl,g3,rfl,rfl⟩
   | ret=>cases g1;cases h;exact ⟨.ret,_,Ω',rfl,rfl,g3,rfl,rfl⟩
   | pan pv=>obtain ⟨v,rfl,hv⟩:=g1;cases h;exact ⟨.pan pv,_,Ω',⟨v,rfl,hv⟩,rfl,g3,rfl,rfl⟩
   | exit j=>
    cases g1
    simp only [vB,Exit.inBlock]
    by_cases hj:j=id
    ·subst hj
     simp only [beq_self_eq_true,if_true] at h
     cases h
     simp only [if_true]
     exact ⟨.normal,_,Ω',rfl,rfl,g3,rfl,rfl⟩
    ·simp only [beq_iff_eq,hj,if_false] at h
     cases h
     rw [if_neg hj]
     exact ⟨.exit j,_,Ω',rfl,rfl,g3,rfl,rfl⟩
 | loop c ih=>
  intro s z s' a Ω h hd hh
  simp only [bB] at hd
  unfold gX at h
  refine wp_loop_rounds N ?_
  have key:∀(n:Nat) (s:St) (a:Act) (Ω:Om),xH (gX C keep pubs N c) n s=some (z,s')→Holds F s.abs a Ω→Code.rounds P c (QL F fun y t=>y=z/\t=s') n a Ω.w:=by
   intro n
   induction n with
   | zero=>intro s a Ω h _;cases h
   | succ n ihn=>
    intro s a Ω h hh
    rw [rounds_succ]
    unfold xH at h
    cases h1:gX C keep pubs N c s with
    | none=>rw [h1] at h;cases h
    | some r=>
     obtain ⟨e1,s1⟩:=r
     rw [h1] at h
     refine wp_mono (ih s e1 s1 a Ω h1 hd hh) ?_
     intro e a' w' hq
     obtain ⟨e2,s2,Ω',g1,g2,g3,g4,g5⟩:=hq
     subst g2 g4 g5
     cases e2 with
     | normal=>cases g1;exact ihn _ a' Ω' h g3
     | exit id=>cases g1;cases h;exact ⟨.exit id,_,Ω',rfl,rfl,g3,rfl,rfl⟩
     | ret=>cases g1;cases h;exact ⟨.ret,_,Ω',rfl,rfl,g3,rfl,rfl⟩
     | pan pv=>obtain ⟨v,rfl,hv⟩:=g1;cases h;exact ⟨.pan pv,_,Ω',⟨v,rfl,hv⟩,rfl,g3,rfl,rfl⟩
  exact key N s a Ω h hh
 | exit id=>intro s x s' a Ω h _ hh;cases h;exact wp_exit ⟨.exit id,s,Ω,rfl,rfl,hh,rfl,rfl⟩
 | ret=>intro s x s' a Ω h _ hh;cases h;exact wp_ret ⟨.ret,s,Ω,rfl,rfl,hh,rfl,rfl⟩
 | rangeFunc g ps x y _ _=>intro s z s' a Ω h;cases h
 | scope c ih=>
  intro s z s' a Ω h hd hh
  simp only [bB] at hd
  unfold gX at h
  refine wp_scope_straight (wp_mono (ih s z s' a Ω h hd hh) ?_)
  intro e a' w' hq
  obtain ⟨e2,s2,Ω',h1,h2,h3,h4⟩:=hq
  cases e2 with
  | normal=>cases h1;exact ⟨.normal,_,Ω',rfl,h2,h3,h4⟩
  | exit id=>cases h1;exact ⟨.exit id,_,Ω',rfl,h2,h3,h4⟩
  | ret=>cases h1;exact ⟨.ret,_,Ω',rfl,h2,h3,h4⟩
  | pan pv=>obtain ⟨v,rfl,hv⟩:=h1;exact ⟨.pan pv,_,Ω',⟨v,rfl,hv⟩,h2,h3,h4⟩
 | label l=>intro s x s' a Ω h _ hh;cases h;exact wp_label ⟨.normal,s,Ω,rfl,rfl,hh,rfl,rfl⟩
 | goto l=>intro s z s' a Ω h;cases h
 | refuse why=>intro s z s' a Ω h;cases h
end Go.AL
end
noncomputable section
namespace Go.AL
variable [Tabs]
mutual
def fineV:AV→Bool
 | .lstp _ _ _=>false
 | .tptr _ _ _=>false
 | .cptr c=>fineV c
 | .agg cs=>fineVs cs
 | .tup cs=>fineVs cs
 | .fn _ cs=>fineVs cs
 | .iface _ a=>fineV a
 | _=>true
def fineVs:List AV→Bool
 | []=>true
 | a ::r=>fineV a && fineVs r
end
def CZ:SObj→Bool
 | .box c=>fineV c
 | .tailp _ _ _=>false
 | _=>true
mutual
def strip:AV→AV
 | .lst τ xs _=>.lst τ xs none
 | .agg cs=>.agg (strips cs)
 | .tup cs=>.tup (strips cs)
 | a=>a
def strips:List AV→List AV
 | []=>[]
 | a ::r=>strip a ::strips r
end
theorem kq (τ:Ty) (xs:List (den τ)):eY τ τ xs=some xs:=by simp [eY]
theorem wR (n:SN) (x:SD n):iN n n x=some x:=by simp [iN]
theorem wS (n:SN) (x:Option (SD n)):lQ n n x=some x:=by simp [lQ]
theorem pj (a:AV):pT a a:=by cases a <;> trivial
mutual
theorem LeV_self (G:List Nat):∀a:AV,fineV a=true→LeV G a a
 | .undef,_=>bN (by simp [LeF])
 | .int k n,_=>bN (by simp [LeF])
 | .bool b,_=>bN (by simp [LeF])
 | .str s,_=>bN (by simp [LeF])
 | .lst τ xs o,_=>bN (by simp [LeF,kq])
 | .nils,_=>bN (by simp [LeF])
 | .ptr i o,_=>bN (by simp [LeF])
 | .nilp,_=>bN (by simp [LeF])
 | .pt n x,_=>bN (by simp [LeF,wS])
 | .st n x,_=>bN (by simp [LeF,wR])
 | .row τ xs,_=>bN (by simp [LeF,kq])
 | .arr i n w,_=>bN (by simp [LeF])
 | .aptr i n w o,_=>bN (by simp [LeF])
 | .map i,_=>bN (by simp [LeF])
 | .bptr i,_=>bN (by simp [LeF])
 | .nilif,_=>bN (by simp [LeF])
 | .nilm,_=>bN (by simp [LeF])
 | .cptr c,h=>by simp only [fineV] at h;unfold LeV;exact ⟨pj c,LeV_self G c h⟩
 | .agg cs,h=>by simp only [fineV] at h;unfold LeV;exact LeL_self G cs h
 | .tup cs,h=>by simp only [fineV] at h;unfold LeV;exact LeL_self G cs h
 | .fn f cs,h=>by simp only [fineV] at h;unfold LeV;exact ⟨by simp,LeL_self G cs h⟩
 | .iface t a,h=>by simp only [fineV] at h;unfold LeV;exact ⟨by simp,LeV_self G a h⟩
 | .lstp _ _ _,h=>by cases h
 | .tptr _ _ _,h=>by cases h
theorem LeL_self (G:List Nat):∀l:List AV,fineVs l=true→LeL G l l
 | [],_=>by unfold LeL;trivial
 | a ::r,h=>by
  simp only [fineVs,Bool.and_eq_true] at h
  unfold LeL
  exact ⟨LeV_self G a h.1,LeL_self G r h.2⟩
end
mutual
theorem LeV_strip (G:List Nat):∀a:AV,fineV a=true→LeV G a (strip a)
 | .lst τ xs o,_=>by unfold strip;exact bN (by simp [LeF,kq])
 | .agg cs,h=>by simp only [fineV] at h;unfold strip LeV;exact LeL_strip G cs h
 | .tup cs,h=>by simp only [fineV] at h;unfold strip LeV;exact LeL_strip G cs h
 | .undef,h=>LeV_self G _ h
 | .int k n,h=>LeV_self G _ h
 | .bool b,h=>LeV_self G _ h
 | .str s,h=>LeV_self G _ h
 | .nils,h=>LeV_self G _ h
 | .ptr i o,h=>LeV_self G _ h
 | .nilp,h=>LeV_self G _ h
 | .pt n x,h=>LeV_self G _ h
 | .st n x,h=>LeV_self G _ h
 | .row τ xs,h=>LeV_self G _ h
 | .arr i n w,h=>LeV_self G _ h
 | .aptr i n w o,h=>LeV_self G _ h
 | .map i,h=>LeV_self G _ h
 | .bptr i,h=>LeV_self G _ h
 | .nilif,h=>LeV_self G _ h
 | .nilm,h=>LeV_self G _ h
 | .cptr c,h=>LeV_self G _ h
 | .fn f cs,h=>LeV_self G _ h
 | .iface t a,h=>LeV_self G _ h
 | .lstp _ _ _,h=>by cases h
 | .tptr _ _ _,h=>by cases h
theorem LeL_strip (G:List Nat):∀l:List AV,fineVs l=true→LeL G l (strips l)
 | [],_=>by unfold strips LeL;trivial
 | a ::r,h=>by
  simp only [fineVs,Bool.and_eq_true] at h
  unfold strips LeL
  exact ⟨LeV_strip G a h.1,LeL_strip G r h.2⟩
end
theorem uG {G:List Nat} {s:St}:∀(l l':List AV) (k:Nat),LeL G l l'→(∀j,b8 s.t (k+j)=l.getD j .undef)→LeT G s (cC k l')
 | [],[],k,_,_=>trivial
 | a ::r,b ::r',k,h,hg=>by
  unfold LeL at h
  refine ⟨?_,uG r r' (k+1) h.2 fun j=>?_⟩
  ·have:=hg 0
   rw [Nat.add_zero] at this
   rw [this]
   exact h.1
  ·have:=hg (j+1)
   rw [show k+1+j=k+(j+1) by omega,this]
   rfl
 | [],_ ::_,_,h,_=>by unfold LeL at h;exact h.elim
 | _ ::_,[],_,h,_=>by unfold LeL at h;exact h.elim
theorem jq {G:List Nat} {s:St}:∀l:List (Nat × SObj),(∀x∈l,aw s.b x.1=some x.2/\CZ x.2=true)→LeB G s l
 | [],_=>trivial
 | (i,.box c) ::r,h=>by
  obtain ⟨h1,h2⟩:=h _ (List.mem_cons_self ..)
  refine ⟨?_,jq r fun x hx=>h x (List.mem_cons_of_mem _ hx)⟩
  simp only at h1
  rw [h1]
  exact ⟨pj c,LeV_self G c h2⟩
 | (i,.tail τ n) ::r,h=>by
  obtain ⟨h1,h2⟩:=h _ (List.mem_cons_self ..)
  refine ⟨?_,jq r fun x hx=>h x (List.mem_cons_of_mem _ hx)⟩
  simp only at h1
  rw [h1]
  simp
 | (i,.map κ τ m) ::r,h=>by
  obtain ⟨h1,h2⟩:=h _ (List.mem_cons_self ..)
  refine ⟨?_,jq r fun x hx=>h x (List.mem_cons_of_mem _ hx)⟩
  simp only at h1
  rw [h1]
  simp [xc]
 | (i,.bld t u l) ::r,h=>by
  obtain ⟨h1,h2⟩:=h _ (List.mem_cons_self ..)
  refine ⟨?_,jq r fun x hx=>h x (List.mem_cons_of_mem _ hx)⟩
  simp only at h1
  rw [h1]
  simp
 | (i,.tailp τ n x) ::r,h=>by
  obtain ⟨h1,h2⟩:=h _ (List.mem_cons_self ..)
  cases h2
end Go.AL
end
noncomputable section
namespace Go.AL
def mG (S:List (Nat × SObj)) (x:Nat × SObj):Bool:=match aw S x.1 with | some o=>eqO o x.2 | none=>false
def BL:List AV→AV
 | [a]=>a
 | l=>.tup l
def BM (s:St) (l:List AV):List (Nat × SObj):=
 s.b.filter fun x=>bw x.1 || (gK (aw s.b) 64 (ids.idsL l++(aN s.b).filter bw) []).contains x.1
def DB:Bool→List AV→List AV
 | true,l=>l
 | false,l=>strips l
def BN (tok:Bool) (S:List (Nat × SObj)) (s:St) (l:List AV):Option Ans:=
 evVs (DB tok l) fun l'=>evB (BM s l') fun kept=>
  match fineVs l && (kept.all (fun x=>CZ x.2)) && b9 (aN s.b) && (aN S).all (fun i=>(aN kept).contains i) &&
    (dm ((aN s.b).filter fun i=>!(aN kept).contains i) ⟨cC 0 l',kept⟩ && ((aN s.b).filter fun i=>!(aN kept).contains i).all (fun i=>!bw i)) with
  | true=>some ⟨none,none,BL l',kept.filter fun x=>!mG S x⟩
  | false=>none
theorem nd:∀{l:List (Nat × SObj)},b9 (aN l)=true→∀{i:Nat} {o:SObj},(i,o)∈l→aw l i=some o
 | [],_,_,_,h=>by cases h
 | (j,u) ::r,hd,i,o,h=>by
  simp only [aN,List.map_cons,b9,Bool.and_eq_true,Bool.not_eq_true',List.contains_eq_mem,decide_eq_false_iff_not] at hd
  rcases List.mem_cons.1 h with e | e
  ·cases e;simp [aR,aO]
  ·have hne:¬j=i:=fun q=>hd.1 (List.mem_map.2 ⟨_,e,q.symm⟩)
   simp only [aR,aO,beq_iff_eq,hne,if_false]
   exact nd hd.2 e
theorem fo (p:Nat × SObj→Bool):∀{l:List (Nat × SObj)},b9 (aN l)=true→b9 (aN (l.filter p))=true
 | [],_=>rfl
 | x ::r,hd=>by
  simp only [aN,List.map_cons,b9,Bool.and_eq_true,Bool.not_eq_true',List.contains_eq_mem,decide_eq_false_iff_not] at hd
  have ih:=fo p hd.2
  rw [List.filter_cons]
  split
  ·simp only [aN,List.map_cons,b9,Bool.and_eq_true,Bool.not_eq_true',List.contains_eq_mem,decide_eq_false_iff_not]
   refine ⟨fun h=>hd.1 ?_,ih⟩
   obtain ⟨y,hy,e⟩:=List.mem_map.1 h
   exact List.mem_map.2 ⟨y,(List.mem_filter.1 hy).1,e⟩
  ·exact ih
variable [Tabs]
theorem BO {l:List (Nat × SObj)} {i:Nat} (h:aw l i=none):i∉aN l:=gS l i h
theorem pk {l:List (Nat × SObj)} {i:Nat} (h:i∉aN l):aw l i=none:=by
 cases hb:aw l i with
 | none=>rfl
 | some o=>exact absurd (List.mem_map.2 ⟨(i,o),cn l i o hb,rfl⟩) h
theorem CN {S kept:List (Nat × SObj)} (hd:b9 (aN kept)=true) (hS:∀i∈aN S,i∈aN kept):aw (bW S (kept.filter fun x=>!mG S x))=aw kept:=by
 funext i
 have hdf:=fo (fun x=>!mG S x) hd
 rw [lK _ S i hdf]
 cases hk:aw kept i with
 | some o=>
  have hm:=cn kept i o hk
  cases hs:mG S (i,o) with
  | false=>
   have:(i,o)∈kept.filter fun x=>!mG S x:=List.mem_filter.2 ⟨hm,by rw [hs];rfl⟩
   rw [nd hdf this]
   rfl
  | true=>
   have hn:aw (kept.filter fun x=>!mG S x) i=none:=by
    cases hb:aw (kept.filter fun x=>!mG S x) i with
    | none=>rfl
    | some o'=>
     have h1:=List.mem_filter.1 (cn _ i o' hb)
     have h2:=nd hd h1.1
     rw [hk] at h2
     cases h2
     have h3:=h1.2
     rw [hs] at h3
     cases h3
   rw [hn]
   unfold mG at hs
   split at hs
   ·rename_i o' ho'
    simp only at ho' hs
    rw [ho',zZ hs]
    rfl
   ·cases hs
 | none=>
  have h1:i∉aN kept:=BO hk
  rw [pk (l:=S) fun h=>h1 (hS i h),pk fun h=>h1 ?_]
  ·rfl
  ·obtain ⟨y,hy,e⟩:=List.mem_map.1 h
   exact List.mem_map.2 ⟨y,(List.mem_filter.1 hy).1,e⟩
theorem pn {G:List Nat}:∀{l m:List AV},LeL G l m→l.length=m.length
 | [],[],_=>rfl
 | _ ::_,_ ::_,h=>by unfold LeL at h;rw [List.length_cons,List.length_cons,pn h.2]
 | [],_ ::_,h=>by unfold LeL at h;exact h.elim
 | _ ::_,[],h=>by unfold LeL at h;exact h.elim
theorem zR {tok:Bool} {S:List (Nat × SObj)} {s:St} {l:List AV} {A:Ans} (h:BN tok S s l=some A) :
  A.ob=none/\A.pan=none/\∃l' kept,A.val=BL l'/\l'.length=l.length/\LeS ⟨cC 0 l,s.b⟩ ⟨cC 0 l',kept⟩/\aw (bW S A.upd)=aw kept:=by
 unfold BN at h
 rw [evVs_eq,sg] at h
 split at h
 ·rename_i hc
  cases h
  simp only [Bool.and_eq_true,List.all_eq_true] at hc
  obtain ⟨⟨⟨⟨h1,h2⟩,h3⟩,h4⟩,h5,h6⟩:=hc
  refine ⟨rfl,rfl,DB tok l,BM s (DB tok l),rfl,?_,⟨?_,?_,?_⟩,?_⟩
  ·cases tok with
   | true=>rfl
   | false=>exact (pn (LeL_strip [] l h1)).symm
  ·rw [if_pos]
   ·trivial
   ·rw [Bool.and_eq_true,List.all_eq_true]
    exact ⟨h5,h6⟩
  ·refine uG l _ 0 ?_ fun j=>?_
   ·cases tok with
    | true=>exact LeL_self _ l h1
    | false=>exact LeL_strip _ l h1
   ·show b8 (cC 0 l) (0+j)=_
    rw [eM]
    simp
  ·refine jq _ fun x hx=>⟨?_,h2 x hx⟩
   exact nd h3 (List.mem_filter.1 hx).1
  ·refine CN (fo _ h3) fun i hi=>?_
   have:=h4 i hi
   rwa [List.contains_eq_mem,decide_eq_true_eq] at this
 ·cases h
structure FB where
 body:Code
 n:Nat
 res:List ResultVar
 keep:Nat
 pubs:List (Nat × List Nat)
 pend:Nat→Bool
 rows:Nat→Bool
 same:Nat→Bool
 tok:Bool
 ps:List (Option Ty)
def BP:Option Ty→AV→AV
 | some (.st n),a=>(match arg (.st n) a with | some x=>.st n x | none=>a)
 | _,a=>a
def xI:List (Option Ty)→List AV→List AV
 | p ::ps,a ::r=>BP p a ::xI ps r
 | _,l=>l
def DC (C:Cfg) (N:Nat) (x:FB) (args:List AV) (S:List (Nat × SObj)):Option Ans:=
 evVs (xI x.ps args) fun args=>evB S fun S=>
  match jL args x.n && (aN S).all bw with
  | false=>none
  | true=>
   match gX C x.keep x.pubs N x.body ⟨cC 0 args,S⟩ with
   | some (.normal,s)=>(match iK C.tbl s x.res with | some l=>BN x.tok S s l | none=>none)
   | some (.ret,s)=>(match iK C.tbl s x.res with | some l=>BN x.tok S s l | none=>none)
   | _=>none
variable {P:Program} {C:Cfg}
theorem BQ (p:Option Ty) (a:AV):Rd a (BP p a):=by
 unfold BP
 split
 ·split
  ·rename_i x hx;exact Rd.arg hx
  ·exact Rd.refl a
 ·exact Rd.refl a
theorem uH:∀(ps:List (Option Ty)) (l:List AV),RdL l (xI ps l)
 | [],l=>RdL.refl l
 | p ::ps,[]=>.nil
 | p ::ps,a ::r=>.cons (BQ p a) (uH ps r)
theorem runF_meets (hm:P.follows .mixedOrders=true) (hT:ba P C.tbl) (hS:bM P C.spec) {N:Nat} {x:FB} {f:Nat} {fn:Func} (hf:P.funcs[f]?=some fn) (hb:fn.body=some x.body) (hn:fn.ntmps=x.n) (hr:fn.results.toList=x.res)
  (hd:bB x.n x.body=true) {args:List AV} {S:List (Nat × SObj)} {A:Ans} (h:DC C N x args S=some A):ay P f args S A:=by
 refine ay.args (uH x.ps args) ?_
 intro w pub e vs hp ht hv hs hdom hinj
 unfold DC at h
 rw [evVs_eq,sg] at h
 split at h
 ·cases h
 ·rename_i hck
  simp only [Bool.and_eq_true,List.all_eq_true] at hck
  obtain ⟨hck2,hck3⟩:=hck
  have hlen:=dw _ _ hck2
  have hlent:∀id c,e id=some c→bw id=true:=by
   intro id c hc
   cases hg:aw S id with
   | none=>rw [hdom id hg] at hc;cases hc
   | some o=>exact hck3 id (List.mem_map.2 ⟨(id,o),cn _ _ _ hg,rfl⟩)
  have hrun:∃z s',gX C x.keep x.pubs N x.body ⟨cC 0 (xI x.ps args),S⟩=some (z,s')/\(match iK C.tbl s' x.res with | some l=>BN x.tok S s' l | none=>none)=some A/\(z=.normal∨z=.ret):=by
   split at h
   ·rename_i s' hz;exact ⟨_,s',hz,h,.inl rfl⟩
   ·rename_i s' hz;exact ⟨_,s',hz,h,.inr rfl⟩
   ·cases h
  obtain ⟨z,s',hz,he,hzz⟩:=hrun
  refine calls_of_wp hf hb ?_
  have hh:=iy (n:=fn.ntmps) hp ht hv (by rw [hn];exact hlen) hs hdom hinj hlent
  rw [←hn] at hd
  refine wp_mono (wQ (F:=⟨w,pub,fn.ntmps,e,hlent,[],ht⟩) hm hT hS _ _ N x.body _ z s' _ _ hz hd hh) ?_
  intro en a' w' hq
  obtain ⟨z2,s2,Ω',h1,h2,h3,h4,h5⟩:=hq
  subst h2 h4 h5
  have hmap:∀us,(fn.results.toList.mapM (lG a'.tmps)).run P Ω'.w=.ok us Ω'.w→
    (results fn a'.tmps).run P Ω'.w=.ok (if h:us.toArray.size=1 then us.toArray[0] else .tuple us.toArray) Ω'.w:=by
   intro us hus
   rw [kg,←Array.toArray_toList (xs:=fn.results),List.mapM_toArray]
   simp only [Sem.run_bind,Sem.run_map,hus,Result.andThen_ok,Sem.run_pure]
  have main:a'.defers=[]/\∃v,(results fn a'.tmps).run P Ω'.w=.ok v Ω'.w/\∃pub' e',(∀b pv u,A.pan=some (b,pv,u)→b=false)/\V ⟨e',Ω'.w,pub'⟩ A.val v/\After w pub e (aw (bW S A.upd)) Ω'.w pub' e':=by
   refine ⟨h3.defers,?_⟩
   split at he
   ·rename_i l hres
    rw [←hr] at hres
    obtain ⟨a1,a2,l',kept,a3,a4,a5,a6⟩:=zR he
    obtain ⟨us,k1,k2⟩:=dW hT h3 _ _ hres
    obtain ⟨Ω2,e2,hh2⟩:=dq (s:=⟨cC 0 l,s2.b⟩) (h3.retmp k2) a5
    rw [a3,a6]
    refine ⟨_,hmap us k1,Ω2.pub,Ω2.e,fun b pv u q=>(by rw [a2] at q;cases q),?_,by rw [←e2];exact fZ hh2⟩
    have hval:∀(j:Nat) c v,l'[j]?=some c→us[j]?=some v→V ⟨Ω2.e,Ω'.w,Ω2.pub⟩ c v:=fun j c v hc hv=>by
     have:=hh2.tmps j
     simp only [St.abs,eM,Nat.zero_le,if_true,Nat.sub_zero,List.getD_eq_getElem?_getD,hc,Option.getD_some] at this
     have e3:(us.toArray++Array.replicate 0 undef).getD j undef=v:=by
      simp [Array.getD_eq_getD_getElem?,hv]
     rw [e3] at this
     rw [←e2]
     exact this
    have hlu:l'.length=us.length:=a4.trans k2.1
    by_cases h1':us.toArray.size=1
    ·rw [dif_pos h1']
     obtain ⟨u,rfl⟩:=gU (l:=us) (by simpa using h1')
     obtain ⟨c,rfl⟩:=gU (l:=l') (by rw [hlu];rfl)
     exact hval 0 c u rfl rfl
    ·rw [dif_neg h1']
     have:BL l'=.tup l':=by
      match l',hlu with
      | [],_=>rfl
      | [c],q=>exact absurd (by simpa using q.symm) h1'
      | _ ::_ ::_,_=>rfl
     rw [this]
     exact .tup l' us hlu hval
   ·cases he
  rcases hzz with rfl | rfl
  ·cases h1;exact main
  ·cases h1;exact main
def xJ:List (Nat × FB)→Nat→Option FB
 | [],_=>none
 | (j,x) ::r,f=>if Nat.beq j f=true then some x else xJ r f
def aA (tbl:List (Nat × TR)) (fn:Func) (keep:Nat) (pubs:List (Nat × List Nat)) (pend rows same:Nat→Bool) (tok:Bool):FB:=
 ⟨fn.body.getD .skip,fn.ntmps,fn.results.toList,keep,pubs,pend,rows,same,tok,fn.params.toList.map fun t=>(aJ tbl t).bind (·.ty)⟩
def fbok (fn:Func):Bool:=match fn.body with | none=>false | some c=>bB fn.ntmps c && !(fn.name == "runtime.NumGoroutine")
def al (P:Program) (tab:List (Nat × FB)):Prop:=∀f x,xJ tab f=some x→
 ∃fn,P.funcs[f]?=some fn/\fn.body=some x.body/\fn.ntmps=x.n/\fn.results.toList=x.res/\bB x.n x.body=true/\(fn.name == "runtime.NumGoroutine")=false
theorem al.nil:al P []:=fun f x h=>by cases h
theorem al.cons {tbl:List (Nat × TR)} {f:Nat} {fn:Func} {keep:Nat} {pubs:List (Nat × List Nat)} {pend rows same:Nat→Bool} {tok:Bool} {tab:List (Nat × FB)} (hf:P.funcs[f]?=some fn) (hc:fbok fn=true) (ht:al P tab) :
  al P ((f,aA tbl fn keep pubs pend rows same tok) ::tab):=by
 intro g x h
 unfold xJ at h
 split at h
 ·rename_i hb
  obtain rfl:=Nat.eq_of_beq_eq_true hb
  cases h
  unfold fbok at hc
  split at hc
  ·cases hc
  ·rename_i c hb'
   simp only [Bool.and_eq_true,Bool.not_eq_true'] at hc
   exact ⟨fn,hf,by simp [aA,hb'],rfl,rfl,by simpa [aA,hb'] using hc.1,hc.2⟩
 ·exact ht g x h
def zS (tbl:List (Nat × TR)) (tab:List (Nat × FB)) (keeps:Nat→Bool) (lends:Nat→List (Option Nat)) (N:Nat) (base:Nat→List AV→List (Nat × SObj)→Option Ans) :
  Nat→Nat→List AV→List (Nat × SObj)→Option Ans
 | 0,f,us,S=>base f us S
 | n+1,f,us,S=>
  match base f us S with
  | some A=>some A
  | none=>
  match xJ tab f with
  | none=>none
  | some x=>DC ⟨tbl,zS tbl tab keeps lends N base n,keeps,lends,x.pend,x.rows,x.same⟩ N x us S
theorem xK {tbl:List (Nat × TR)} {tab:List (Nat × FB)} {keeps:Nat→Bool} {lends:Nat→List (Option Nat)} {N:Nat} {base:Nat→List AV→List (Nat × SObj)→Option Ans}
  (hm:P.follows .mixedOrders=true) (hT:ba P tbl) (hB:bM P base) (ht:al P tab):∀n:Nat,bM P (zS tbl tab keeps lends N base n)
 | 0=>hB
 | n+1=>by
  intro f args S A h ho hl
  unfold zS at h
  split at h
  ·rename_i A' hb
   cases h
   exact hB f args S A hb ho hl
  split at h
  ·cases h
  ·rename_i x hx
   obtain ⟨fn,h1,h2,h3,h4,h5,h6⟩:=ht f x hx
   exact ⟨⟨fn,h1,by rw [h2];rfl,h6⟩,runF_meets hm hT (xK hm hT hB ht n) h1 h2 h3 h4 h5 h⟩
theorem jH {tbl:List (Nat × TR)} {tab:List (Nat × FB)} {keeps:Nat→Bool} {lends:Nat→List (Option Nat)} {N n f:Nat} {base:Nat→List AV→List (Nat × SObj)→Option Ans} {args:List AV} {v:AV} {u:List (Nat × SObj)}
  (hm:P.follows .mixedOrders=true) (hT:ba P tbl) (hB:bM P base) (ht:al P tab) (h:zS tbl tab keeps lends N base n f args []=some ⟨none,none,v,u⟩):ay P f args [] ⟨none,none,v,u⟩:=
 (xK hm hT hB ht n f args [] _ h (fun _ q=>by cases q) rfl).2
def tested (b:List AV→List (Nat × SObj)→Bool) (g:Pat):Pat:=fun args S=>match b args S,g args S with | true,some A=>some {A with ob:=none} | _,_=>none
theorem aj.tested {f:Nat} {g:Pat} {b:List AV→List (Nat × SObj)→Bool} (h:aj P f g) (hb:∀args S A q,b args S=true→g args S=some A→A.ob=some q→q):aj P f (tested b g):=by
 intro args S A hA ho hl
 unfold AL.tested at hA
 split at hA
 ·rename_i A' hbt hg
  cases hA
  exact h args S A' hg (fun q hq=>hb args S A' q hbt hg hq) hl
 ·cases hA
end Go.AL
end
noncomputable section
namespace Go.AL
variable [Tabs] {P:Program}
def q1 (τ:Ty) (b:den τ→Bool) (F:den τ→AV):Pat
 | [a],[]=>(match arg τ a with | some x=>(match b x with | true=>some (.ret (F x)) | false=>none) | none=>none)
 | _,_=>none
theorem D0 {f:Nat} {τ:Ty} {b:den τ→Bool} {F:den τ→AV} {O:den τ→Prop} (h:aj P f (p1 τ fun x=>⟨some (O x),none,F x,[]⟩)) (hb:∀x,b x=true→O x):aj P f (q1 τ b F):=by
 intro args S A hA ho hl
 unfold q1 at hA
 split at hA
 ·rename_i a
  split at hA
  ·rename_i x hx
   split at hA
   ·rename_i ht
    cases hA
    have k:=h [a] [] ⟨some (O x),none,F x,[]⟩ (by simp [p1,hx]) (fun q hq=>by cases hq;exact hb x ht) hl
    exact ⟨k.1,k.2⟩
   ·cases hA
  ·cases hA
 ·cases hA
def q2 (τ σ:Ty) (b:den τ→den σ→Bool) (F:den τ→den σ→AV):Pat
 | [a,c],[]=>(match arg τ a,arg σ c with | some x,some y=>(match b x y with | true=>some (.ret (F x y)) | false=>none) | _,_=>none)
 | _,_=>none
theorem xL {f:Nat} {τ σ:Ty} {b:den τ→den σ→Bool} {F:den τ→den σ→AV} {O:den τ→den σ→Prop} (h:aj P f (p2 τ σ fun x y=>⟨some (O x y),none,F x y,[]⟩)) (hb:∀x y,b x y=true→O x y):aj P f (q2 τ σ b F):=by
 intro args S A hA ho hl
 unfold q2 at hA
 split at hA
 ·rename_i a c
  split at hA
  ·rename_i x y hx hy
   split at hA
   ·rename_i ht
    cases hA
    have k:=h [a,c] [] ⟨some (O x y),none,F x y,[]⟩ (by simp [p2,hx,hy]) (fun q hq=>by cases hq;exact hb x y ht) hl
    exact ⟨k.1,k.2⟩
   ·cases hA
  ·cases hA
 ·cases hA
def uI (as0:List AV) (v:AV):Pat:=fun args S=>match eqVs as0 args,S with | true,[]=>some (.ret v) | _,_=>none
theorem sl {f:Nat} {as0:List AV} {v:AV} (he:aC P f) (h:ay P f as0 [] (.ret v)):aj P f (uI as0 v):=by
 intro args S A hA ho hl
 unfold uI at hA
 split at hA
 ·rename_i heq
  cases hA
  rw [←eqVs_ok _ _ heq]
  exact ⟨he,h⟩
 ·cases hA
def t1 (τ:Ty) (b:den τ→Bool):List AV→List (Nat × SObj)→Bool
 | [a],_=>(match arg τ a with | some x=>b x | none=>false)
 | _,_=>false
theorem DZ {f:Nat} {τ:Ty} {b:den τ→Bool} {F:den τ→Ans} (h:aj P f (p1 τ F)) (hb:∀x q,b x=true→(F x).ob=some q→q):aj P f (tested (t1 τ b) (p1 τ F)):=by
 refine h.tested fun args S A q ht hg ho=>?_
 unfold p1 at hg
 split at hg
 ·rename_i a
  split at hg
  ·rename_i x hx
   cases hg
   refine hb x q ?_ ho
   simpa [t1,hx] using ht
  ·cases hg
 ·cases hg
def xM:List AV→List (Nat × SObj)→Bool
 | _,[(_,.box (.lst .str zs _))]=>decide (zs.length *16<=140737488355328)
 | _,_=>false
theorem wT {f gv:Nat} (h:aj P f (dO gv)):aj P f (tested xM (dO gv)):=by
 refine h.tested fun args S A q hb hg ho=>?_
 unfold dO at hg
 split at hg
 ·split at hg
  ·cases hg
   cases ho
   exact Xo hb
  ·cases hg
 ·cases hg
def uJ:List AV→List (Nat × SObj)→Bool
 | [.arr _ n _],[(_,.box (.row .str ss))]=>decide (n=ss.length)
 | _,_=>false
theorem uK {f:Nat} (h:aj P f dP):aj P f (tested uJ dP):=by
 refine h.tested fun args S A q hb hg ho=>?_
 unfold dP at hg
 split at hg
 ·cases hg
  cases ho
  exact Xo hb
 ·cases hg
def jI:List Str→Bool
 | []=>true
 | x ::r=>!r.contains x && jI r
theorem l9:∀{l:List Str},jI l=true→l.Nodup
 | [],_=>List.nodup_nil
 | x ::r,h=>by
  unfold jI at h
  rw [Bool.and_eq_true,Bool.not_eq_true'] at h
  refine List.nodup_cons.2 ⟨fun q=>?_,l9 h.2⟩
  have:=h.1
  rw [List.contains_eq_mem,decide_eq_false_iff_not] at this
  exact this q
def lP:List AV→List (Nat × SObj)→Bool
 | [.arr _ n _,_],[(_,.box (.row (.int .i64) xs)),(_,.box (.st .shape s))]=>
  decide (n=xs.length) && !xs.isEmpty && (xs.all fun x=>decide (0<=(x:Int)) && decide ((x:Int) < s.names.length)) && jI s.names && decide (xs.length < 4611686018427387904)
 | _,_=>false
theorem so {f gc:Nat} (h:aj P f (dz gc)):aj P f (tested lP (dz gc)):=by
 refine h.tested fun args S A q hb hg ho=>?_
 unfold dz at hg
 split at hg
 ·split at hg
  ·cases hg
   cases ho
   unfold lP at hb
   simp only [Bool.and_eq_true,decide_eq_true_eq,Bool.not_eq_true',List.all_eq_true] at hb
   obtain ⟨⟨⟨⟨h1,h2⟩,h3⟩,h4⟩,h5⟩:=hb
   exact ⟨h1,(fun e=>by rw [e] at h2;cases h2),h3,l9 h4,h5⟩
  ·cases hg
 ·cases hg
end Go.AL
end
noncomputable section
namespace Go.AL.Seat
open Go Go.AL Go.Proofs Go.Shelf Go.Pd
variable [Tabs]
def DD (t:Str):Bool:=!t.isEmpty && decide (t.length<=15) && t.all fun c=>decide (48<=c.toNat) && decide (c.toNat<=57)
theorem CO {t:Str} (h:DD t=true):mn t:=by
 unfold DD at h
 simp only [Bool.and_eq_true,Bool.not_eq_true',decide_eq_true_eq,List.all_eq_true] at h
 exact ⟨fun e=>(by rw [e] at h;exact absurd h.1.1 (by decide)),h.1.2,h.2⟩
def BR:List (Nat × Pat):=
 [(186,p1 .str fun s=>.ret (.tup [.int .i32 ((iB s).1:Int),.int .i64 ((iB s).2:Int)])),
  (199,p2 .str (.int .u8) fun a c=>.ret (.int .i64 (AG a c))),
  (129,q2 .str .str (fun _ b=>decide (b=oA)) fun a _=>.str (oB a)),
  (194,q2 .str .str (fun a b=>decide (b=[45]) && decide (a.length < 4294967281)) fun a _=>.tup [.str (gC a),.str (kl a),.bool (lH a)]),
  (195,q2 .str .str (fun a b=>decide (b=[46]) && decide (a.length < 4294967281)) fun a _=>.lst .str (splitB 46 a) none),
  (201,q2 .str .str (fun _ b=>decide (b.length=1)) fun a b=>.bool (decide (b.getD 0 0∈a))),
  (197,q1 .str DD fun t=>.tup [.int .i64 (jV t),.nilif]),
  (64,q1 (.lst .str) (fun l=>decide (l.length *16<=140737488355328)) fun l=>.lst .str l none),
  (34,tested (t1 (.lst (.st .bind)) fun l=>decide (l.length *120<=140737488355328)) (p1 (.lst (.st .bind)) fun l=>⟨some (l.length *120<=140737488355328),none,.lst (.st .bind) l (some 5),[(5,.tail (.st .bind) l.length)]⟩)),
  (167,tested xM (dO 226)),
  (169,tested uJ dP),
  (61,tested lP (dz 62)),
  (59,p1 (.st .shape) fun s=>.ret (.tup [.int .i64 (if sz s<=400 then (sz s:Int) else 401),.int .i64 (if sz s<=400 then deepS s 1 else 0),.bool (decide (sz s<=400))]))]
theorem ld [SeatLaid]:bM Tryz.prog (gq BR):=
 sc oH (sc pK (sc (xL AO fun _ _ h=>Xo h)
  (sc (xL Cm fun _ _ h=>by rw [Bool.and_eq_true] at h;exact ⟨Xo h.1,Xo h.2⟩)
  (sc (xL yF fun _ _ h=>by rw [Bool.and_eq_true] at h;exact ⟨Xo h.1,Xo h.2⟩)
  (sc (xL rJ fun _ _ h=>Xo h) (sc (D0 AN fun _ h=>CO h)
  (sc (D0 lL fun _ h=>Xo h) (sc (DZ oM fun _ q h e=>by cases e;exact Xo h)
  (sc (wT km) (sc (uK jk) (sc (so kS) (sc qh sn))))))))))))
end Go.AL.Seat
end
noncomputable section
namespace Go.AL.Seat
open Go Go.AL Go.Proofs
set_option maxRecDepth 1000000
variable [Tabs]
def D1 (f:Nat):List (Option Nat):=if Nat.beq f 67 || Nat.beq f 68 then [some 2] else []
def D2 (f:Nat):Bool:=false
def wU:List (Nat × FB):=(11,aA tbl Tryz.f11 383 [] (fun _=>false) (fun _=>false) (fun d=>Nat.beq d 25 || Nat.beq d 27) false) ::(18,aA tbl Tryz.f18 15 [] (fun _=>false) (fun _=>false) (fun _=>false) false) ::(19,aA tbl Tryz.f19 4159 [] (fun _=>false) (fun _=>false) (fun _=>false) false) ::(28,aA tbl Tryz.f28 4362109181 [] (fun _=>false) (fun _=>false) (fun _=>false) false) ::(12,aA tbl Tryz.f12 1151 [] (fun _=>false) (fun _=>false) (fun _=>false) false) ::(35,aA tbl Tryz.f35 1965 [] (fun _=>false) (fun _=>false) (fun d=>Nat.beq d 16) false) ::(36,aA tbl Tryz.f36 4362109181 [] (fun _=>false) (fun _=>false) (fun _=>false) false) ::(46,aA tbl Tryz.f46 77975715369647181664879229 [] (fun _=>false) (fun _=>false) (fun _=>false) false) ::(47,aA tbl Tryz.f47 9016029707634675 [] (fun _=>false) (fun _=>false) (fun _=>false) false) ::(48,aA tbl Tryz.f48 531 [] (fun _=>false) (fun _=>false) (fun _=>false) false) ::(21,aA tbl Tryz.f21 74783 [] (fun _=>false) (fun _=>false) (fun _=>false) false) ::(29,aA tbl Tryz.f29 19 [] (fun _=>false) (fun _=>false) (fun _=>false) false) ::(30,aA tbl Tryz.f30 270664191 [] (fun _=>false) (fun _=>false) (fun _=>false) false) ::(53,aA tbl Tryz.f53 5 [] (fun _=>false) (fun _=>false) (fun _=>false) false) ::(54,aA tbl Tryz.f54 562984380336637 [] (fun _=>false) (fun _=>false) (fun _=>false) false) ::(55,aA tbl Tryz.f55 1074004979 [] (fun _=>false) (fun _=>false) (fun _=>false) false) ::(56,aA tbl Tryz.f56 531 [] (fun _=>false) (fun _=>false) (fun _=>false) false) ::(67,aA tbl Tryz.f67 65555 [] (fun _=>false) (fun _=>false) (fun _=>false) false) ::(68,aA tbl Tryz.f68 4294967347 [] (fun _=>false) (fun _=>false) (fun _=>false) false) ::(69,aA tbl Tryz.f69 5 [] (fun _=>false) (fun _=>false) (fun _=>false) false) ::(70,aA tbl Tryz.f70 8388935 [] (fun _=>false) (fun _=>false) (fun _=>false) false) ::(71,aA tbl Tryz.f71 87112288527988523651034566703108870643455 [] (fun _=>false) (fun _=>false) (fun d=>Nat.beq d 21) false) ::(72,aA tbl Tryz.f72 33816627 [] (fun _=>false) (fun _=>false) (fun _=>false) false) ::(73,aA tbl Tryz.f73 5 [] (fun _=>false) (fun _=>false) (fun _=>false) false) ::(74,aA tbl Tryz.f74 268439557 [] (fun _=>false) (fun _=>false) (fun _=>false) false) ::(75,aA tbl Tryz.f75 81129648086015544455969055506495 [] (fun _=>false) (fun _=>false) (fun _=>false) false) ::(76,aA tbl Tryz.f76 263 [] (fun _=>false) (fun _=>false) (fun _=>false) false) ::(37,aA tbl Tryz.f37 2223863 [] (fun _=>false) (fun _=>false) (fun _=>false) false) ::(38,aA tbl Tryz.f38 7 [] (fun _=>false) (fun _=>false) (fun _=>false) false) ::(49,aA tbl Tryz.f49 89203661441933403568762194417536241417190911 [] (fun _=>false) (fun _=>false) (fun d=>Nat.beq d 49 || Nat.beq d 106 || Nat.beq d 124 || Nat.beq d 142 || Nat.beq d 143) false) ::(39,aA tbl Tryz.f39 299063 [] (fun _=>false) (fun _=>false) (fun _=>false) false) ::(24,aA tbl Tryz.f24 39 [] (fun _=>false) (fun _=>false) (fun _=>false) false) ::(91,aA tbl Tryz.f91 37852736853667689267293 [] (fun _=>false) (fun _=>false) (fun _=>false) false) ::(92,aA tbl Tryz.f92 5487058363987403117567667136273109224445 [] (fun _=>false) (fun _=>false) (fun _=>false) false) ::(93,aA tbl Tryz.f93 139315 [] (fun _=>false) (fun _=>false) (fun _=>false) false) ::(94,aA tbl Tryz.f94 17827827 [] (fun _=>false) (fun _=>false) (fun _=>false) false) ::(95,aA tbl Tryz.f95 19 [] (fun _=>false) (fun _=>false) (fun _=>false) false) ::(120,aA tbl Tryz.f120 549890048253 [] (fun _=>false) (fun _=>false) (fun _=>false) false) ::(121,aA tbl Tryz.f121 71 [] (fun _=>false) (fun _=>false) (fun _=>false) false) ::(122,aA tbl Tryz.f122 79 [] (fun _=>false) (fun _=>false) (fun _=>false) false) ::(123,aA tbl Tryz.f123 5 [] (fun _=>false) (fun _=>false) (fun _=>false) false) ::(124,aA tbl Tryz.f124 5 [] (fun _=>false) (fun _=>false) (fun _=>false) false) ::(125,aA tbl Tryz.f125 5 [] (fun _=>false) (fun _=>false) (fun _=>false) false) ::(126,aA tbl Tryz.f126 29 [] (fun _=>false) (fun _=>false) (fun _=>false) false) ::(100,aA tbl Tryz.f100 5 [] (fun _=>false) (fun _=>false) (fun _=>false) false) ::(103,aA tbl Tryz.f103 5 [] (fun _=>false) (fun _=>false) (fun _=>false) false) ::(127,aA tbl Tryz.f127 5 [] (fun _=>false) (fun _=>false) (fun _=>false) false) ::(128,aA tbl Tryz.f128 5 [] (fun _=>false) (fun _=>false) (fun _=>false) false) ::(130,aA tbl Tryz.f130 151115799509488183025661 [] (fun _=>false) (fun _=>false) (fun _=>false) false) ::(131,aA tbl Tryz.f131 618970019647202533975261693 [] (fun _=>false) (fun _=>false) (fun _=>false) false) ::(132,aA tbl Tryz.f132 29 [] (fun _=>false) (fun _=>false) (fun _=>false) false) ::(133,aA tbl Tryz.f133 3 [] (fun d=>Nat.beq d 8) (fun _=>false) (fun _=>false) false) ::(134,aA tbl Tryz.f134 7 [] (fun d=>Nat.beq d 15) (fun _=>false) (fun _=>false) false) ::(137,aA tbl Tryz.f137 275 [] (fun _=>false) (fun _=>false) (fun _=>false) false) ::(135,aA tbl Tryz.f135 131 [] (fun _=>false) (fun _=>false) (fun _=>false) false) ::(139,aA tbl Tryz.f139 7 [] (fun _=>false) (fun _=>false) (fun _=>false) false) ::(138,aA tbl Tryz.f138 271375 [] (fun _=>false) (fun _=>false) (fun _=>false) false) ::(141,aA tbl Tryz.f141 32819 [] (fun _=>false) (fun _=>false) (fun _=>false) false) ::(142,aA tbl Tryz.f142 15 [] (fun _=>false) (fun _=>false) (fun _=>false) false) ::(143,aA tbl Tryz.f143 17180524607 [] (fun _=>false) (fun _=>false) (fun _=>false) false) ::(57,aA tbl Tryz.f57 3537148372723500476506894142080440715070649430595550180525943565456506895 [] (fun _=>false) (fun _=>false) (fun _=>false) false) ::(58,aA tbl Tryz.f58 27 [] (fun _=>false) (fun _=>false) (fun _=>false) false) ::(77,aA tbl Tryz.f77 2147492295 [] (fun _=>false) (fun _=>false) (fun _=>false) false) ::(78,aA tbl Tryz.f78 160562833849755950391295 [] (fun _=>false) (fun _=>false) (fun d=>Nat.beq d 19 || Nat.beq d 49) false) ::(79,aA tbl Tryz.f79 549789368831 [] (fun _=>false) (fun _=>false) (fun d=>Nat.beq d 15 || Nat.beq d 43) false) ::(16,aA tbl Tryz.f16 23 [] (fun _=>false) (fun _=>false) (fun _=>false) false) ::(80,aA tbl Tryz.f80 36031000339288063 [] (fun _=>false) (fun _=>false) (fun d=>Nat.beq d 45 || Nat.beq d 65) false) ::(81,aA tbl Tryz.f81 102844040580930233559092546268346994287008189083989802508869631 [] (fun _=>false) (fun _=>false) (fun d=>Nat.beq d 55 || Nat.beq d 63 || Nat.beq d 86 || Nat.beq d 111 || Nat.beq d 118 || Nat.beq d 120 || Nat.beq d 136 || Nat.beq d 155 || Nat.beq d 167 || Nat.beq d 202 || Nat.beq d 203) false) ::(40,aA tbl Tryz.f40 2159703 [] (fun _=>false) (fun _=>false) (fun _=>false) false) ::(60,aA tbl Tryz.f60 10141204803006463002229839257615 [] (fun _=>false) (fun _=>false) (fun _=>false) false) ::(42,aA tbl Tryz.f42 36219466547391 [] (fun _=>false) (fun _=>false) (fun _=>false) false) ::(150,aA tbl Tryz.f150 9223376984926589309 [] (fun _=>false) (fun _=>false) (fun _=>false) false) ::(151,aA tbl Tryz.f151 5 [] (fun _=>false) (fun _=>false) (fun _=>false) false) ::(152,aA tbl Tryz.f152 5 [] (fun _=>false) (fun _=>false) (fun _=>false) false) ::(153,aA tbl Tryz.f153 2147483661 [] (fun _=>false) (fun _=>false) (fun _=>false) false) ::(154,aA tbl Tryz.f154 5 [] (fun _=>false) (fun _=>false) (fun _=>false) false) ::(116,aA tbl Tryz.f116 5 [] (fun _=>false) (fun _=>false) (fun _=>false) false) ::(119,aA tbl Tryz.f119 5 [] (fun _=>false) (fun _=>false) (fun _=>false) false) ::(155,aA tbl Tryz.f155 5 [] (fun _=>false) (fun _=>false) (fun _=>false) false) ::(156,aA tbl Tryz.f156 5070641086539181312813312250877 [] (fun _=>false) (fun d=>Nat.beq d 14) (fun _=>false) false) ::(157,aA tbl Tryz.f157 16525 [] (fun _=>false) (fun _=>false) (fun _=>false) false) ::(158,aA tbl Tryz.f158 19968563638923261082878717 [] (fun _=>false) (fun _=>false) (fun _=>false) false) ::(159,aA tbl Tryz.f159 5 [] (fun _=>false) (fun _=>false) (fun _=>false) false) ::(160,aA tbl Tryz.f160 5075558997068629606245683707891 [] (fun _=>false) (fun _=>false) (fun _=>false) false) ::(51,aA tbl Tryz.f51 2343 [] (fun _=>false) (fun _=>false) (fun _=>false) false) ::(161,aA tbl Tryz.f161 33043 [] (fun _=>false) (fun _=>false) (fun _=>false) false) ::(166,aA tbl Tryz.f166 552075315 [] (fun _=>false) (fun _=>false) (fun _=>false) false) ::(196,aA tbl Tryz.f196 5 [] (fun _=>false) (fun _=>false) (fun _=>false) false) ::(198,aA tbl Tryz.f198 9316337836119 [] (fun _=>false) (fun _=>false) (fun _=>false) false) ::(200,aA tbl Tryz.f200 5 [] (fun _=>false) (fun _=>false) (fun _=>false) false) ::(136,aA tbl Tryz.f136 2228285 [] (fun _=>false) (fun _=>false) (fun _=>false) false) ::(203,aA tbl Tryz.f203 51 [] (fun _=>false) (fun _=>false) (fun _=>false) false) ::(140,aA tbl Tryz.f140 65587 [] (fun _=>false) (fun _=>false) (fun _=>false) false) ::(205,aA tbl Tryz.f205 23945973599159813139139346461134680183357916012085311 [] (fun _=>false) (fun _=>false) (fun _=>false) false) ::(206,aA tbl Tryz.f206 3 [] (fun d=>Nat.beq d 8) (fun _=>false) (fun _=>false) false) ::(96,aA tbl Tryz.f96 7 [] (fun _=>false) (fun _=>false) (fun _=>false) false) ::(97,aA tbl Tryz.f97 27 [] (fun _=>false) (fun _=>false) (fun _=>false) false) ::(98,aA tbl Tryz.f98 7 [] (fun _=>false) (fun _=>false) (fun _=>false) false) ::(99,aA tbl Tryz.f99 2098133 [] (fun _=>false) (fun _=>false) (fun _=>false) false) ::(101,aA tbl Tryz.f101 13 [] (fun _=>false) (fun _=>false) (fun _=>false) false) ::(102,aA tbl Tryz.f102 27 [] (fun _=>false) (fun _=>false) (fun _=>false) false) ::(105,aA tbl Tryz.f105 15 [] (fun _=>false) (fun _=>false) (fun _=>false) false) ::(104,aA tbl Tryz.f104 19 [] (fun _=>false) (fun _=>false) (fun _=>false) false) ::(144,aA tbl Tryz.f144 8389119 [] (fun _=>false) (fun _=>false) (fun _=>false) false) ::(145,aA tbl Tryz.f145 66483 [] (fun _=>false) (fun _=>false) (fun _=>false) false) ::(146,aA tbl Tryz.f146 67172223 [] (fun _=>false) (fun _=>false) (fun _=>false) true) ::(109,aA tbl Tryz.f109 4444215 [] (fun _=>false) (fun _=>false) (fun _=>false) false) ::(110,aA tbl Tryz.f110 5 [] (fun _=>false) (fun _=>false) (fun _=>false) false) ::(62,aA tbl Tryz.f62 39 [] (fun _=>false) (fun _=>false) (fun d=>Nat.beq d 16) false) ::(212,aA tbl Tryz.f212 5 [] (fun _=>false) (fun _=>false) (fun _=>false) false) ::(213,aA tbl Tryz.f213 8389645 [] (fun _=>false) (fun _=>false) (fun _=>false) false) ::(214,aA tbl Tryz.f214 131635 [] (fun _=>false) (fun _=>false) (fun _=>false) false) ::(215,aA tbl Tryz.f215 8388767 [] (fun _=>false) (fun _=>false) (fun _=>false) false) ::(216,aA tbl Tryz.f216 2097779 [] (fun _=>false) (fun _=>false) (fun _=>false) false) ::(217,aA tbl Tryz.f217 4295 [] (fun _=>false) (fun _=>false) (fun _=>false) false) ::(218,aA tbl Tryz.f218 66503 [] (fun _=>false) (fun _=>false) (fun _=>false) false) ::(219,aA tbl Tryz.f219 199 [] (fun _=>false) (fun _=>false) (fun _=>false) false) ::(220,aA tbl Tryz.f220 316931992907069184984647990303 [] (fun _=>false) (fun _=>false) (fun _=>false) false) ::(221,aA tbl Tryz.f221 73796001086816403443 [] (fun _=>false) (fun _=>false) (fun _=>false) false) ::(33,aA tbl Tryz.f33 65655 [] (fun _=>false) (fun _=>false) (fun _=>false) false) ::(88,aA tbl Tryz.f88 2098239 [] (fun _=>false) (fun _=>false) (fun _=>false) false) ::(89,aA tbl Tryz.f89 1050703 [] (fun _=>false) (fun _=>false) (fun _=>false) false) ::(241,aA tbl Tryz.f241 18014398524686365 [] (fun _=>false) (fun _=>false) (fun _=>false) false) ::(202,aA tbl Tryz.f202 324677087359430077278579446644799 [] (fun d=>Nat.beq d 129) (fun _=>false) (fun _=>false) false) ::(204,aA tbl Tryz.f204 19 [] (fun _=>false) (fun _=>false) (fun _=>false) false) ::(248,aA tbl Tryz.f248 3 [] (fun d=>Nat.beq d 23) (fun _=>false) (fun _=>false) false) ::(249,aA tbl Tryz.f249 13 [] (fun _=>false) (fun _=>false) (fun _=>false) false) ::(163,aA tbl Tryz.f163 15 [] (fun _=>false) (fun _=>false) (fun _=>false) false) ::(162,aA tbl Tryz.f162 19 [] (fun _=>false) (fun _=>false) (fun _=>false) false) ::(164,aA tbl Tryz.f164 7 [] (fun _=>false) (fun _=>false) (fun _=>false) false) ::(168,aA tbl Tryz.f168 7 [] (fun _=>false) (fun _=>false) (fun _=>false) false) ::(171,aA tbl Tryz.f171 11 [] (fun _=>false) (fun _=>false) (fun _=>false) false) ::(170,aA tbl Tryz.f170 19 [] (fun _=>false) (fun _=>false) (fun _=>false) false) ::(172,aA tbl Tryz.f172 66483 [] (fun _=>false) (fun _=>false) (fun _=>false) false) ::(207,aA tbl Tryz.f207 31 [] (fun _=>false) (fun _=>false) (fun d=>Nat.beq d 7 || Nat.beq d 9 || Nat.beq d 12) false) ::(208,aA tbl Tryz.f208 553657335 [] (fun _=>false) (fun _=>false) (fun d=>Nat.beq d 19 || Nat.beq d 20) false) ::(63,aA tbl Tryz.f63 19 [] (fun _=>false) (fun _=>false) (fun _=>false) false) ::(256,aA tbl Tryz.f256 72341542915801119 [] (fun _=>false) (fun _=>false) (fun _=>false) false) ::(257,aA tbl Tryz.f257 4125 [] (fun _=>false) (fun _=>false) (fun _=>false) false) ::(258,aA tbl Tryz.f258 68987920327 [] (fun _=>false) (fun _=>false) (fun _=>false) false) ::(149,aA tbl Tryz.f149 2557586548459967842939230490655 [] (fun _=>false) (fun _=>false) (fun _=>false) false) ::(244,aA tbl Tryz.f244 7 [] (fun d=>Nat.beq d 21) (fun _=>false) (fun _=>false) false) ::(246,aA tbl Tryz.f246 149971 [] (fun _=>false) (fun _=>false) (fun _=>false) false) ::(247,aA tbl Tryz.f247 3 [] (fun d=>Nat.beq d 8) (fun _=>false) (fun _=>false) false) ::(222,aA tbl Tryz.f222 66483 [] (fun _=>false) (fun _=>false) (fun _=>false) false) ::(226,aA tbl Tryz.f226 16883 [] (fun _=>false) (fun _=>false) (fun _=>false) false) ::(227,aA tbl Tryz.f227 66483 [] (fun _=>false) (fun _=>false) (fun _=>false) false) ::(250,aA tbl Tryz.f250 31 [] (fun _=>false) (fun _=>false) (fun _=>false) false) ::(251,aA tbl Tryz.f251 1 [] (fun _=>false) (fun _=>false) (fun _=>false) false) ::(252,aA tbl Tryz.f252 179799758744771528110887069003277459880165367 [] (fun _=>false) (fun _=>false) (fun d=>Nat.beq d 71 || Nat.beq d 87 || Nat.beq d 98 || Nat.beq d 103) false) ::(254,aA tbl Tryz.f254 3885 [] (fun _=>false) (fun _=>false) (fun _=>false) false) ::(253,aA tbl Tryz.f253 2203049797495 [] (fun _=>false) (fun _=>false) (fun _=>false) false) ::(113,aA tbl Tryz.f113 19 [] (fun _=>false) (fun _=>false) (fun _=>false) false) ::(278,aA tbl Tryz.f278 33309 [] (fun _=>false) (fun _=>false) (fun _=>false) false) ::(279,aA tbl Tryz.f279 36028797018964541 [] (fun _=>false) (fun _=>false) (fun _=>false) false) ::(211,aA tbl Tryz.f211 4297327731 [] (fun _=>false) (fun _=>false) (fun _=>false) false) ::(245,aA tbl Tryz.f245 5 [] (fun _=>false) (fun _=>false) (fun _=>false) false) ::(273,aA tbl Tryz.f273 79 [] (fun _=>false) (fun _=>false) (fun _=>false) false) ::(274,aA tbl Tryz.f274 2103 [] (fun _=>false) (fun _=>false) (fun _=>false) false) ::(275,aA tbl Tryz.f275 11 [] (fun _=>false) (fun _=>false) (fun _=>false) false) ::(277,aA tbl Tryz.f277 1079 [] (fun _=>false) (fun _=>false) (fun _=>false) false) ::(276,aA tbl Tryz.f276 251 [] (fun _=>false) (fun _=>false) (fun _=>false) false) ::(299,aA tbl Tryz.f299 524429 [] (fun _=>false) (fun _=>false) (fun _=>false) false) ::[]
theorem jJ:al Tryz.prog wU:=al.cons Tryz.func11 (by kernel_rfl) (al.cons Tryz.func18 (by kernel_rfl) (al.cons Tryz.func19 (by kernel_rfl) (al.cons Tryz.func28 (by kernel_rfl) (al.cons Tryz.func12 (by kernel_rfl) (al.cons Tryz.func35 (by kernel_rfl) (al.cons Tryz.func36 (by kernel_rfl) (al.cons Tryz.func46 (by kernel_rfl) (al.cons Tryz.func47 (by kernel_rfl) (al.cons Tryz.func48 (by kernel_rfl) (al.cons Tryz.func21 (by kernel_rfl) (al.cons Tryz.func29 (by kernel_rfl) (al.cons Tryz.func30 (by kernel_rfl) (al.cons Tryz.func53 (by kernel_rfl) (al.cons Tryz.func54 (by kernel_rfl) (al.cons Tryz.func55 (by kernel_rfl) (al.cons Tryz.func56 (by kernel_rfl) (al.cons Tryz.func67 (by kernel_rfl) (al.cons Tryz.func68 (by kernel_rfl) (al.cons Tryz.func69 (by kernel_rfl) (al.cons Tryz.func70 (by kernel_rfl) (al.cons Tryz.func71 (by kernel_rfl) (al.cons Tryz.func72 (by kernel_rfl) (al.cons Tryz.func73 (by kernel_rfl) (al.cons Tryz.func74 (by kernel_rfl) (al.cons Tryz.func75 (by kernel_rfl) (al.cons Tryz.func76 (by kernel_rfl) (al.cons Tryz.func37 (by kernel_rfl) (al.cons Tryz.func38 (by kernel_rfl) (al.cons Tryz.func49 (by kernel_rfl) (al.cons Tryz.func39 (by kernel_rfl) (al.cons Tryz.func24 (by kernel_rfl) (al.cons Tryz.func91 (by kernel_rfl) (al.cons Tryz.func92 (by kernel_rfl) (al.cons Tryz.func93 (by kernel_rfl) (al.cons Tryz.func94 (by kernel_rfl) (al.cons Tryz.func95 (by kernel_rfl) (al.cons Tryz.func120 (by kernel_rfl) (al.cons Tryz.func121 (by kernel_rfl) (al.cons Tryz.func122 (by kernel_rfl) (al.cons Tryz.func123 (by kernel_rfl) (al.cons Tryz.func124 (by kernel_rfl) (al.cons Tryz.func125 (by kernel_rfl) (al.cons Tryz.func126 (by kernel_rfl) (al.cons Tryz.func100 (by kernel_rfl) (al.cons Tryz.func103 (by kernel_rfl) (al.cons Tryz.func127 (by kernel_rfl) (al.cons Tryz.func128 (by kernel_rfl) (al.cons Tryz.func130 (by kernel_rfl) (al.cons Tryz.func131 (by kernel_rfl) (al.cons Tryz.func132 (by kernel_rfl) (al.cons Tryz.func133 (by kernel_rfl) (al.cons Tryz.func134 (by kernel_rfl) (al.cons Tryz.func137 (by kernel_rfl) (al.cons Tryz.func135 (by kernel_rfl) (al.cons Tryz.func139 (by kernel_rfl) (al.cons Tryz.func138 (by kernel_rfl) (al.cons Tryz.func141 (by kernel_rfl) (al.cons Tryz.func142 (by kernel_rfl) (al.cons Tryz.func143 (by kernel_rfl) (al.cons Tryz.func57 (by kernel_rfl) (al.cons Tryz.func58 (by kernel_rfl) (al.cons Tryz.func77 (by kernel_rfl) (al.cons Tryz.func78 (by kernel_rfl) (al.cons Tryz.func79 (by kernel_rfl) (al.cons Tryz.func16 (by kernel_rfl) (al.cons Tryz.func80 (by kernel_rfl) (al.cons Tryz.func81 (by kernel_rfl) (al.cons Tryz.func40 (by kernel_rfl) (al.cons Tryz.func60 (by kernel_rfl) (al.cons Tryz.func42 (by kernel_rfl) (al.cons Tryz.func150 (by kernel_rfl) (al.cons Tryz.func151 (by kernel_rfl) (al.cons Tryz.func152 (by kernel_rfl) (al.cons Tryz.func153 (by kernel_rfl) (al.cons Tryz.func154 (by kernel_rfl) (al.cons Tryz.func116 (by kernel_rfl) (al.cons Tryz.func119 (by kernel_rfl) (al.cons Tryz.func155 (by kernel_rfl) (al.cons Tryz.func156 (by kernel_rfl) (al.cons Tryz.func157 (by kernel_rfl) (al.cons Tryz.func158 (by kernel_rfl) (al.cons Tryz.func159 (by kernel_rfl) (al.cons Tryz.func160 (by kernel_rfl) (al.cons Tryz.func51 (by kernel_rfl) (al.cons Tryz.func161 (by kernel_rfl) (al.cons Tryz.func166 (by kernel_rfl) (al.cons Tryz.func196 (by kernel_rfl) (al.cons Tryz.func198 (by kernel_rfl) (al.cons Tryz.func200 (by kernel_rfl) (al.cons Tryz.func136 (by kernel_rfl) (al.cons Tryz.func203 (by kernel_rfl) (al.cons Tryz.func140 (by kernel_rfl) (al.cons Tryz.func205 (by kernel_rfl) (al.cons Tryz.func206 (by kernel_rfl) (al.cons Tryz.func96 (by kernel_rfl) (al.cons Tryz.func97 (by kernel_rfl) (al.cons Tryz.func98 (by kernel_rfl) (al.cons Tryz.func99 (by kernel_rfl) (al.cons Tryz.func101 (by kernel_rfl) (al.cons Tryz.func102 (by kernel_rfl) (al.cons Tryz.func105 (by kernel_rfl) (al.cons Tryz.func104 (by kernel_rfl) (al.cons Tryz.func144 (by kernel_rfl) (al.cons Tryz.func145 (by kernel_rfl) (al.cons Tryz.func146 (by kernel_rfl) (al.cons Tryz.func109 (by kernel_rfl) (al.cons Tryz.func110 (by kernel_rfl) (al.cons Tryz.func62 (by kernel_rfl) (al.cons Tryz.func212 (by kernel_rfl) (al.cons Tryz.func213 (by kernel_rfl) (al.cons Tryz.func214 (by kernel_rfl) (al.cons Tryz.func215 (by kernel_rfl) (al.cons Tryz.func216 (by kernel_rfl) (al.cons Tryz.func217 (by kernel_rfl) (al.cons Tryz.func218 (by kernel_rfl) (al.cons Tryz.func219 (by kernel_rfl) (al.cons Tryz.func220 (by kernel_rfl) (al.cons Tryz.func221 (by kernel_rfl) (al.cons Tryz.func33 (by kernel_rfl) (al.cons Tryz.func88 (by kernel_rfl) (al.cons Tryz.func89 (by kernel_rfl) (al.cons Tryz.func241 (by kernel_rfl) (al.cons Tryz.func202 (by kernel_rfl) (al.cons Tryz.func204 (by kernel_rfl) (al.cons Tryz.func248 (by kernel_rfl) (al.cons Tryz.func249 (by kernel_rfl) (al.cons Tryz.func163 (by kernel_rfl) (al.cons Tryz.func162 (by kernel_rfl) (al.cons Tryz.func164 (by kernel_rfl) (al.cons Tryz.func168 (by kernel_rfl) (al.cons Tryz.func171 (by kernel_rfl) (al.cons Tryz.func170 (by kernel_rfl) (al.cons Tryz.func172 (by kernel_rfl) (al.cons Tryz.func207 (by kernel_rfl) (al.cons Tryz.func208 (by kernel_rfl) (al.cons Tryz.func63 (by kernel_rfl) (al.cons Tryz.func256 (by kernel_rfl) (al.cons Tryz.func257 (by kernel_rfl) (al.cons Tryz.func258 (by kernel_rfl) (al.cons Tryz.func149 (by kernel_rfl) (al.cons Tryz.func244 (by kernel_rfl) (al.cons Tryz.func246 (by kernel_rfl) (al.cons Tryz.func247 (by kernel_rfl) (al.cons Tryz.func222 (by kernel_rfl) (al.cons Tryz.func226 (by kernel_rfl) (al.cons Tryz.func227 (by kernel_rfl) (al.cons Tryz.func250 (by kernel_rfl) (al.cons Tryz.func251 (by kernel_rfl) (al.cons Tryz.func252 (by kernel_rfl) (al.cons Tryz.func254 (by kernel_rfl) (al.cons Tryz.func253 (by kernel_rfl) (al.cons Tryz.func113 (by kernel_rfl) (al.cons Tryz.func278 (by kernel_rfl) (al.cons Tryz.func279 (by kernel_rfl) (al.cons Tryz.func211 (by kernel_rfl) (al.cons Tryz.func245 (by kernel_rfl) (al.cons Tryz.func273 (by kernel_rfl) (al.cons Tryz.func274 (by kernel_rfl) (al.cons Tryz.func275 (by kernel_rfl) (al.cons Tryz.func277 (by kernel_rfl) (al.cons Tryz.func276 (by kernel_rfl) (al.cons Tryz.func299 (by kernel_rfl) (al.nil)))))))))))))))))))))))))))))))))))))))))))))))))))))))))))))))))))))))))))))))))))))))))))))))))))))))))))))))))))))))))))))))))))))))))))))))))))))))))))))))))))
abbrev DE:=zS tbl wU D2 D1 5000 (gq BR) 100
end Go.AL.Seat
end
noncomputable section
namespace Go.AL.Seat
open Go Go.AL Go.Proofs Go.Pd
set_option maxRecDepth 1000000
def DF:Str:=[40,102,117,110,32,40,120,58,32,73,110,116,41,32,45,62,32,123,97,32,61,32,120,125,41,40,49,41,46,97]
def DG:Str:=[97,100,100,40,49,44,32,116,114,117,101,41]
def DH:AV:=(.tup [(.agg [(.int .i64 9),(.str []),(.str [97]),(.int .i64 0),.nils,.nils,.nils,(.lst (.st .term) [⟨7,[],[],0,[],[],[],[⟨6,[],[],0,[[120]],[],[⟨1,[],[],[],[]⟩],[⟨8,[],[],0,[[97]],[],[],[⟨5,[],[120],0,[],[],[],[],22⟩],17⟩],1⟩,⟨1,[],[],1,[],[],[],[],26⟩],0⟩] none),(.int .i64 0)]),(.agg [(.int .i64 0),(.int .i64 0)])])
def DI:AV:=(.tup [(.agg [(.int .i64 7),(.str []),(.str []),(.int .i64 0),.nils,.nils,.nils,(.lst (.st .term) [⟨5,[],[97,100,100],0,[],[],[],[],0⟩,⟨1,[],[],1,[],[],[],[],4⟩,⟨3,[],[],0,[],[],[],[],7⟩] none),(.int .i64 0)]),(.agg [(.int .i64 0),(.int .i64 0)])])
def BS:List Bndg:=[⟨[],[97,100,100],⟨8,[],[],[],[⟨1,[],[],[],[]⟩,⟨1,[],[],[],[]⟩,⟨1,[],[],[],[]⟩]⟩⟩,⟨[],[115,117,98],⟨8,[],[],[],[⟨1,[],[],[],[]⟩,⟨1,[],[],[],[]⟩,⟨1,[],[],[],[]⟩]⟩⟩,⟨[],[109,117,108],⟨8,[],[],[],[⟨1,[],[],[],[]⟩,⟨1,[],[],[],[]⟩,⟨1,[],[],[],[]⟩]⟩⟩,⟨[],[108,101,115,115],⟨8,[],[],[],[⟨1,[],[],[],[]⟩,⟨1,[],[],[],[]⟩,⟨2,[],[],[],[]⟩]⟩⟩,⟨[],[115,97,109,101],⟨8,[],[],[],[⟨1,[],[],[],[]⟩,⟨1,[],[],[],[]⟩,⟨2,[],[],[],[]⟩]⟩⟩,⟨[],[110,111,116],⟨8,[],[],[],[⟨2,[],[],[],[]⟩,⟨2,[],[],[],[]⟩]⟩⟩,⟨[],[98,111,116,104],⟨8,[],[],[],[⟨2,[],[],[],[]⟩,⟨2,[],[],[],[]⟩,⟨2,[],[],[],[]⟩]⟩⟩,⟨[],[99,97,116],⟨8,[],[],[],[⟨3,[],[],[],[]⟩,⟨3,[],[],[],[]⟩,⟨3,[],[],[],[]⟩]⟩⟩,⟨[],[115,105,122,101],⟨8,[],[],[],[⟨3,[],[],[],[]⟩,⟨1,[],[],[],[]⟩]⟩⟩,⟨[],[115,104,111,119],⟨8,[],[],[],[⟨1,[],[],[],[]⟩,⟨3,[],[],[],[]⟩]⟩⟩]
variable [Tabs] [SeatLaid]
theorem run1:ay Tryz.prog 28 [.str DF] [] (.ret DH):=jH (n:=100) mixed oK ld jJ (by kernel_rfl:DE 28 [.str DF] []=some ⟨none,none,DH,[]⟩)
theorem run2:ay Tryz.prog 28 [.str DG] [] (.ret DI):=jH (n:=100) mixed oK ld jJ (by kernel_rfl:DE 28 [.str DG] []=some ⟨none,none,DI,[]⟩)
theorem run3:ay Tryz.prog 18 [] [] (.ret (.lst (.st .bind) BS none)):=jH (n:=100) mixed oK ld jJ (by kernel_rfl:DE 18 [] []=some ⟨none,none,.lst (.st .bind) BS none,[]⟩)
def D3:List (Nat × Pat):=(28,uI [.str DF] DH) ::(28,uI [.str DG] DI) ::(18,uI [] (.lst (.st .bind) BS none)) ::BR
theorem BT:bM Tryz.prog (gq D3):=sc (sl (ee Tryz.func28) run1) (sc (sl (ee Tryz.func28) run2) (sc (sl (ee Tryz.func18) run3) ld))
abbrev E0:=zS tbl wU D2 D1 5000 (gq D3) 100
end Go.AL.Seat
end
noncomputable section
namespace Go.AL.Seat
open Go Go.AL Go.Proofs Go.Pd
set_option maxRecDepth 1000000
variable [Tabs] [SeatLaid]
theorem run5:ay Tryz.prog 11 [] [] (.ret (.bool true)):=jH (n:=100) mixed oK BT jJ (by kernel_rfl:E0 11 [] []=some ⟨none,none,.bool true,[]⟩)
theorem uL:aj Tryz.prog 11 (p0 (.ret (.bool true))):=CY (ee Tryz.func11) run5
end Go.AL.Seat
end
