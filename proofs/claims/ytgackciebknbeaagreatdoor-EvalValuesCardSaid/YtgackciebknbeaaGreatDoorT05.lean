/- What the functions' conditions say, proved. Plain facts. The layer: Go code as conditions, and that they are sound. No condition. -/
import Derived.Test.YtgackciebknbeaaGreatDoorT04
import Derived.LoopN
set_option linter.all false
set_option maxRecDepth 100000
section
open Go Go.AL Go.Pd
namespace Go.AL.Seat
theorem AM (v:Vlu) (hs:Wf (.st .val) v) (ho:v.names.length *16<=140737488355328) :
  if decide (v.pkg=[])=true then if decide (v.text=[])=true then if decide (v.kind=(1:Int))=true then if decide ((↑(List.length v.names):Int)=(0:Int))=true then True/\decide ((↑(List.length v.parts):Int)=(0:Int))=ai v/\True else True/\false=ai v/\True else if decide (v.kind=(2:Int))=true then if decide (v.pkg=[])=true then if decide (v.n=(0:Int))=true then if decide ((↑(List.length v.names):Int)=(0:Int))=true then True/\decide ((↑(List.length v.parts):Int)=(0:Int))=ai v/\True else True/\false=ai v/\True else True/\false=ai v/\True else True/\false=ai v/\True else if decide (v.kind=(3:Int))=true then if decide ((↑(List.length v.names):Int)=(0:Int))=true then if decide ((↑(List.length v.parts):Int)=(0:Int))=true then if decide (v.n=(0:Int))=true then True/\true=ai v/\True else True/\decide (v.n=(1:Int))=ai v/\True else True/\false=ai v/\True else True/\false=ai v/\True else if decide (v.kind=(4:Int))=true then if decide ((↑(List.length v.names):Int)=(0:Int))=true then True/\decide (v.n=(0:Int))=ai v/\True else True/\false=ai v/\True else if decide (v.kind=(5:Int))=true then if decide (v.pkg=[])=true then if decide (v.text=[])=true then if decide (v.n=(0:Int))=true then List.length v.names *(16:Nat)<=(140737488355328:Nat)/\if fj v.names=true then True/\decide ((↑(List.length v.names):Int)=(↑(List.length v.parts):Int))=ai v/\True else True/\false=ai v/\True else True/\false=ai v/\True else True/\false=ai v/\True else True/\false=ai v/\True else if decide (v.kind=(6:Int))=true then if decide (v.pkg=[])=true then if decide (v.n=(0:Int))=true then if decide ((↑(List.length v.names):Int)=(0:Int))=true then if aw v.text=true then True/\decide ((↑(List.length v.parts):Int)=(1:Int))=ai v/\True else True/\false=ai v/\True else True/\false=ai v/\True else True/\false=ai v/\True else True/\false=ai v/\True else if decide (v.kind=(7:Int))=true then if aw v.pkg=true then if cU v.text=true then if decide (v.n=(0:Int))=true then if decide ((↑(List.length v.names):Int)=(0:Int))=true then True/\decide ((↑(List.length v.parts):Int)=(1:Int))=ai v/\True else True/\false=ai v/\True else True/\false=ai v/\True else True/\false=ai v/\True else True/\false=ai v/\True else if decide (v.kind=(8:Int))=true then if decide ((↑(List.length v.names):Int)=(0:Int))=true then if decide ((↑(List.length v.parts):Int)=(0:Int))=true then if decide ((0:Int)<=v.n)=true then True/\decide (v.n<=(1000:Int))=ai v/\True else True/\false=ai v/\True else True/\false=ai v/\True else True/\false=ai v/\True else True/\false=ai v/\True else if decide (v.kind=(1:Int))=true then True/\false=ai v/\True else if decide (v.kind=(2:Int))=true then if decide (v.pkg=[])=true then if decide (v.n=(0:Int))=true then if decide ((↑(List.length v.names):Int)=(0:Int))=true then True/\decide ((↑(List.length v.parts):Int)=(0:Int))=ai v/\True else True/\false=ai v/\True else True/\false=ai v/\True else True/\false=ai v/\True else if decide (v.kind=(3:Int))=true then True/\false=ai v/\True else if decide (v.kind=(4:Int))=true then True/\false=ai v/\True else if decide (v.kind=(5:Int))=true then if decide (v.pkg=[])=true then if decide (v.text=[])=true then if decide (v.n=(0:Int))=true then List.length v.names *(16:Nat)<=(140737488355328:Nat)/\if fj v.names=true then True/\decide ((↑(List.length v.names):Int)=(↑(List.length v.parts):Int))=ai v/\True else True/\false=ai v/\True else True
  /\false=ai v/\True else True/\false=ai v/\True else True/\false=ai v/\True else if decide (v.kind=(6:Int))=true then if decide (v.pkg=[])=true then if decide (v.n=(0:Int))=true then if decide ((↑(List.length v.names):Int)=(0:Int))=true then if aw v.text=true then True/\decide ((↑(List.length v.parts):Int)=(1:Int))=ai v/\True else True/\false=ai v/\True else True/\false=ai v/\True else True/\false=ai v/\True else True/\false=ai v/\True else if decide (v.kind=(7:Int))=true then if aw v.pkg=true then if cU v.text=true then if decide (v.n=(0:Int))=true then if decide ((↑(List.length v.names):Int)=(0:Int))=true then True/\decide ((↑(List.length v.parts):Int)=(1:Int))=ai v/\True else True/\false=ai v/\True else True/\false=ai v/\True else True/\false=ai v/\True else True/\false=ai v/\True else if decide (v.kind=(8:Int))=true then True/\false=ai v/\True else True/\false=ai v/\True else if decide (v.kind=(1:Int))=true then True/\false=ai v/\True else if decide (v.kind=(2:Int))=true then if decide (v.pkg=[])=true then if decide (v.n=(0:Int))=true then if decide ((↑(List.length v.names):Int)=(0:Int))=true then True/\decide ((↑(List.length v.parts):Int)=(0:Int))=ai v/\True else True/\false=ai v/\True else True/\false=ai v/\True else True/\false=ai v/\True else if decide (v.kind=(3:Int))=true then True/\false=ai v/\True else if decide (v.kind=(4:Int))=true then True/\false=ai v/\True else if decide (v.kind=(5:Int))=true then if decide (v.pkg=[])=true then if decide (v.text=[])=true then if decide (v.n=(0:Int))=true then List.length v.names *(16:Nat)<=(140737488355328:Nat)/\if fj v.names=true then True/\decide ((↑(List.length v.names):Int)=(↑(List.length v.parts):Int))=ai v/\True else True/\false=ai v/\True else True/\false=ai v/\True else True/\false=ai v/\True else True/\false=ai v/\True else if decide (v.kind=(6:Int))=true then if decide (v.pkg=[])=true then if decide (v.n=(0:Int))=true then if decide ((↑(List.length v.names):Int)=(0:Int))=true then if aw v.text=true then True/\decide ((↑(List.length v.parts):Int)=(1:Int))=ai v/\True else True/\false=ai v/\True else True/\false=ai v/\True else True/\false=ai v/\True else True/\false=ai v/\True else if decide (v.kind=(7:Int))=true then if aw v.pkg=true then if cU v.text=true then if decide (v.n=(0:Int))=true then if decide ((↑(List.length v.names):Int)=(0:Int))=true then True/\decide ((↑(List.length v.parts):Int)=(1:Int))=ai v/\True else True/\false=ai v/\True else True/\false=ai v/\True else True/\false=ai v/\True else True/\false=ai v/\True else if decide (v.kind=(8:Int))=true then True/\false=ai v/\True else True/\false=ai v/\True:=by
 unfold ai qh lR
 repeat' (first | exact a8 (fun _=>?_) (fun _=>?_) | refine a8 (fun _=>?_) (fun _=>?_))
 all_goals (try refine ⟨by first | exact trivial | omega,?_⟩)
 all_goals simp_all
 all_goals omega
theorem vP (n:Nat) (x:Vlu)  (ho:szV x<=n/\bD x=true) :
  (szV x<=n/\bD x=true)/\True/\(!allV ai x)=!allV ai x/\True:=by
 exact ⟨ho,trivial,by trivial,trivial⟩
theorem vQ (n:Nat) (l:List Vlu)  (hl:Wf (.lst (.st .val)) l) (ho:∀x∈l,szV x<=n/\bD x=true) :
  (∃(x:Nat),(x<=List.length l/\aT (allV ai) (List.drop x l) x=aT (allV ai) l (0:Nat))/\(0:Int)=(↑x:Int)/\l=l/\(↑(List.length l):Int)=(↑(List.length l):Int)/\True)/\∀(x:Nat),x<=List.length l/\aT (allV ai) (List.drop x l) x=aT (allV ai) l (0:Nat)→if decide ((↑x:Int) < (↑(List.length l):Int))=true then ((0:Int)<=(↑x:Int)/\(↑x:Int) < (↑(List.length l):Int))/\(szV (List.getD l (Int.toNat (↑x:Int)) (dfl (Ty.st SN.val)))<=n/\bD (List.getD l (Int.toNat (↑x:Int)) (dfl (Ty.st SN.val)))=true)/\if (!allV ai (List.getD l (Int.toNat (↑x:Int)) (dfl (Ty.st SN.val))))=true then True/\(↑x:Int)=aT (allV ai) l (0:Nat)/\True else inR IntKind.i64 ((↑x:Int)+(1:Int))/\∃(y:Nat),(y<=List.length l/\aT (allV ai) (List.drop y l) y=aT (allV ai) l (0:Nat))/\List.length l - y < List.length l - x/\(↑x:Int)+(1:Int)=(↑y:Int)/\l=l/\(↑(List.length l):Int)=(↑(List.length l):Int)/\True else True/\(-1:Int)=aT (allV ai) l (0:Nat)/\True:=by
 have ln:=hl.len
 simp only [Int.toNat_natCast]
 refine ⟨⟨0,⟨Nat.zero_le _,by simp⟩,rfl,by trivial,by trivial,trivial⟩,?_⟩
 rintro k ⟨h1,h2⟩
 refine a8 (fun h=>?_) (fun h=>?_)
 ·replace h:=Xo h
  have hk:k < l.length:=by omega
  rw [bf l k (dfl (.st .val)) hk,aT] at h2
  refine ⟨by omega,ho _ (de l k _ hk),a8 (fun c=>?_) (fun c=>?_)⟩
  ·have c:(allV ai) (l.getD k (dfl (.st .val)))=false:=by simpa using c
   rw [c,if_neg Bool.false_ne_true] at h2
   rw [←h2]
   exact ⟨trivial,rfl,trivial⟩
  ·have c:(allV ai) (l.getD k (dfl (.st .val)))=true:=by simpa using c
   rw [if_pos c] at h2
   refine ⟨bV hk ln,k+1,⟨by omega,h2⟩,by omega,by omega,by trivial,by trivial,trivial⟩
 ·replace h:¬((k:Int) < (l.length:Int)):=fun e=>h (Xd e)
  have e:k=l.length:=by omega
  subst e
  rw [List.drop_length,aT] at h2
  rw [←h2]
  exact ⟨trivial,rfl,trivial⟩
theorem vR (n:Nat) (l:List Vlu)  (ho:∀x∈l,szV x<=n/\bD x=true) :
  (∀(x:Vlu),x∈l→szV x<=n/\bD x=true)/\True/\decide ((0:Int)<=aT (allV ai) l (0:Nat))=!List.all l (allV ai)/\True:=by
 exact ⟨ho,trivial,ga (allV ai) l 0,trivial⟩
theorem AN (n:Nat) (l:List Vlu)  (ho:∀x∈l,szV x<=n/\bD x=true) :
  (∀(x:Vlu),x∈l→szV x<=n/\bD x=true)/\True/\(!!List.all l (allV ai))=List.all l (allV ai)/\True:=by
 exact ⟨ho,trivial,Bool.not_not _,trivial⟩
theorem vS (n:Nat) (v:Vlu) (hs:Wf (.st .val) v) (ho:szV v<=n+1/\bD v=true) :
  List.length v.names *(16:Nat)<=(140737488355328:Nat)/\if ai v=true then (∀(x:Vlu),x∈v.parts→szV x<=n/\bD x=true)/\True/\List.all v.parts (allV ai)=allV ai v/\True else True/\false=allV ai v/\True:=by
 obtain ⟨h1,h2⟩:=ho
 have hz:=jo v
 have e1:=allV_eq ai v
 unfold bD at h2
 rw [allV_eq,Bool.and_eq_true,List.all_eq_true] at h2
 have h3:=Xo h2.1
 rw [e1]
 refine ⟨by omega,a8 (fun h=>?_) (fun h=>?_)⟩
 ·rw [h,Bool.true_and]
  exact ⟨fun x hx=>⟨by have:=gq hx;omega,h2.2 x hx⟩,by repeat' (first | exact trivial | rfl | apply And.intro)⟩
 ·have h:ai v=false:=by simpa using h
  rw [h]
  repeat' (first | exact trivial | rfl | apply And.intro)
theorem yJ (v:Vlu) (hs:Wf (.st .val) v) (ho:bD v=true) :
  if (!decide (szV v<=(2000:Nat)))=true then True/\(3:Int)=fb v/\True else if decide ((40:Int) < if szV v<=(2000:Nat) then deepV v (1:Int) else (0:Int))=true then True/\(91:Int)=fb v/\True else (szV v<=(2000:Nat)/\bD v=true)/\if (!allV ai v)=true then True/\(290:Int)=fb v/\True else True/\(0:Int)=fb v/\True:=by
 unfold fb
 by_cases h1:szV v<=2000
 ·rw [if_neg (by simp [h1]),if_pos h1,if_neg (show ¬2000 < szV v by omega)]
  by_cases h2:(40:Int) < deepV v 1
  ·rw [if_pos (by simp [h2]),if_pos h2];exact ⟨trivial,rfl,trivial⟩
  ·rw [if_neg (by simp [h2]),if_neg h2]
   refine ⟨⟨h1,ho⟩,?_⟩
   cases allV ai v <;> simp
 ·rw [if_pos (by simp [h1]),if_pos (show 2000 < szV v by omega)];exact ⟨trivial,rfl,trivial⟩
theorem Cf (s:Option Scp) (o n:Str) (w:Thg) (hs:Wf (.pt .scope) s) (ho:Wf .str o) (hn:Wf .str n) :
  True/\some (Scp.mk o n (Thg.mk (Thg.kind w) (Thg.n w) (Thg.pkg w) (Thg.text w) (Thg.names w) (Thg.parts w) (Thg.fn w)) s)=cA s o n w/\True:=by
 cases w
 exact ⟨trivial,rfl,trivial⟩
theorem Cg (s:Option Scp) (o n:Str) (hs:Wf (.pt .scope) s) (ho:Wf .str o) (hn:Wf .str n) :
  (∃(x:Option Scp),findF x o n=findF s o n/\s=x/\o=o/\n=n/\True)/\∀(x:Option Scp),findF x o n=findF s o n→if Option.isSome x=true then Option.isSome x=true/\if (!decide (Scp.pkg (Option.getD x (dfl (Ty.st SN.scope)))=o))=true then Option.isSome x=true/\∃(y:Option Scp),findF y o n=findF s o n/\rL y < rL x/\Scp.rest (Option.getD x (dfl (Ty.st SN.scope)))=y/\o=o/\n=n/\True else Option.isSome x=true/\if (!decide (Scp.name (Option.getD x (dfl (Ty.st SN.scope)))=n))=true then Option.isSome x=true/\∃(y:Option Scp),findF y o n=findF s o n/\rL y < rL x/\Scp.rest (Option.getD x (dfl (Ty.st SN.scope)))=y/\o=o/\n=n/\True else True/\x=findF s o n/\True else True/\x=findF s o n/\True:=by
 refine ⟨⟨s,rfl,rfl,rfl,rfl,trivial⟩,?_⟩
 intro x hx
 refine a8 (fun h=>?_) (fun h=>?_)
 ·obtain ⟨y,rfl⟩:=Option.isSome_iff_exists.1 h
  obtain ⟨p,m,w,r⟩:=y
  refine ⟨rfl,a8 (fun h1=>?_) (fun h1=>?_)⟩
  ·have h1:¬p=o:=ej h1
   refine ⟨rfl,r,?_,by rw [qg];exact Nat.lt_succ_self _,rfl,rfl,rfl,trivial⟩
   rw [←hx,iF];exact (if_neg fun q=>h1 q.1).symm
  ·have h1:p=o:=eK h1
   refine ⟨rfl,a8 (fun h2=>?_) (fun h2=>?_)⟩
   ·have h2:¬m=n:=ej h2
    refine ⟨rfl,r,?_,by rw [qg];exact Nat.lt_succ_self _,rfl,rfl,rfl,trivial⟩
    rw [←hx,iF];exact (if_neg fun q=>h2 q.2).symm
   ·have h2:m=n:=eK h2
    refine ⟨trivial,?_,trivial⟩
    rw [←hx,iF];exact (if_pos ⟨h1,h2⟩).symm
 ·have hn:x=none:=by simpa using h
  subst hn
  exact ⟨trivial,by rw [←hx,vB],trivial⟩
theorem AO (b:Bool)  :
  if b=true then True/\(3:Int)=(3:Int)/\((1:Int)=if b=true then (1:Int) else (0:Int))/\bA UInt8=bA UInt8/\bA UInt8=bA UInt8/\bA Str=bA Str/\bA Thg=bA Thg/\(none:Option Fnc)=none/\True else True/\(3:Int)=(3:Int)/\((0:Int)=if b=true then (1:Int) else (0:Int))/\bA UInt8=bA UInt8/\bA UInt8=bA UInt8/\bA Str=bA Str/\bA Thg=bA Thg/\(none:Option Fnc)=none/\True:=by
 refine a8 (fun h=>?_) (fun h=>?_)
 ·exact ⟨trivial,rfl,(if_pos h).symm,rfl,rfl,rfl,rfl,rfl,trivial⟩
 ·exact ⟨trivial,rfl,(if_neg h).symm,rfl,rfl,rfl,rfl,rfl,trivial⟩
theorem Ch (e a:Int)  :
  true=true/\e=e/\a=a/\True:=by
 exact ⟨rfl,rfl,rfl,trivial⟩
theorem Ci (k:Int) (l:List Thg) (a:Int) (hl:Wf (.lst (.st .thing)) l) :
  (∃(x:Nat),(x<=List.length l/\dh k (List.take x l)=true)/\(0:Int)=(↑x:Int)/\k=k/\l=l/\a=a/\l=l/\(↑(List.length l):Int)=(↑(List.length l):Int)/\True)/\∀(x:Nat),x<=List.length l/\dh k (List.take x l)=true→if decide ((↑x:Int) < (↑(List.length l):Int))=true then ((0:Int)<=(↑x:Int)/\(↑x:Int) < (↑(List.length l):Int))/\if (!decide (Thg.kind (List.getD l (Int.toNat (↑x:Int)) (dfl (Ty.st SN.thing)))=k))=true then (!dh k l)=true/\(291:Int)=(291:Int)/\a=a/\True else inR IntKind.i64 ((↑x:Int)+(1:Int))/\∃(y:Nat),(y<=List.length l/\dh k (List.take y l)=true)/\List.length l - y < List.length l - x/\(↑x:Int)+(1:Int)=(↑y:Int)/\k=k/\l=l/\a=a/\l=l/\(↑(List.length l):Int)=(↑(List.length l):Int)/\True else (!dh k l)=false/\True:=by
 have ln:=hl.len
 refine ⟨⟨0,⟨Nat.zero_le _,rfl⟩,(by repeat' (first | exact trivial | rfl | apply And.intro))⟩,?_⟩
 rintro x ⟨h1,h2⟩
 simp only [Int.toNat_natCast]
 refine a8 (fun h=>?_) (fun h=>?_)
 ·have hx:x < l.length:=by have:=Xo h;omega
  refine ⟨by omega,a8 (fun hk=>?_) (fun hk=>?_)⟩
  ·have hk:¬(l.getD x (dfl (Ty.st SN.thing))).kind=k:=by simpa using hk
   refine ⟨?_,(by repeat' (first | exact trivial | rfl | apply And.intro))⟩
   cases hq:dh k l with
   | false=>rfl
   | true=>exact absurd (Xo (List.all_eq_true.1 hq _ (de l x (dfl (Ty.st SN.thing)) hx))) hk
  ·have hk:(l.getD x (dfl (Ty.st SN.thing))).kind=k:=by simpa using hk
   refine ⟨bV hx ln,x+1,⟨by omega,?_⟩,by omega,by omega,(by repeat' (first | exact trivial | rfl | apply And.intro))⟩
   rw [qd l x (dfl (Ty.st SN.thing)) hx]
   unfold dh at h2 ⊢
   rw [List.all_append,h2]
   simp only [List.all_cons,List.all_nil,Bool.and_true,Bool.true_and]
   exact Xd hk
 ·have e:x=l.length:=by have q:¬_:=fun q=>h (Xd q);omega
  subst e
  rw [List.take_length] at h2
  exact ⟨by rw [h2];rfl,trivial⟩
theorem AP (nm:Str) (l:List Thg) (a:Int) (hnm:Wf .str nm) (hl:Wf (.lst (.st .thing)) l) (ha:Wf (.int .i64) a) (ho:(ah nm l a).isSome=true) :
  if decide (nm=[(110:UInt8),(111:UInt8),(116:UInt8)])=true then if (!dh (3:Int) l)=true then (!decide ((ab (ah nm l a)).f.err=(0:Int)))=true/\(291:Int)=(ab (ah nm l a)).f.err/\a=(ab (ah nm l a)).f.pos/\True else if decide (nm=[(110:UInt8),(111:UInt8),(116:UInt8)])=true then ((0:Int)<=(0:Int)/\(0:Int) < (↑(List.length l):Int))/\(!decide ((ab (ah nm l a)).f.err=(0:Int)))=false/\ku (decide (Thg.n (List.getD l (Int.toNat (0:Int)) (dfl (Ty.st SN.thing)))=(0:Int)))=(ab (ah nm l a)).v/\True else ((0:Int)<=(0:Int)/\(0:Int) < (↑(List.length l):Int))/\((0:Int)<=(1:Int)/\(1:Int) < (↑(List.length l):Int))/\(!decide ((ab (ah nm l a)).f.err=(0:Int)))=false/\ku (decide (IntKind.wrap IntKind.i64 (Thg.n (List.getD l (Int.toNat (0:Int)) (dfl (Ty.st SN.thing)))+Thg.n (List.getD l (Int.toNat (1:Int)) (dfl (Ty.st SN.thing))))=(2:Int)))=(ab (ah nm l a)).v/\True else if decide (nm=[(98:UInt8),(111:UInt8),(116:UInt8),(104:UInt8)])=true then if (!dh (3:Int) l)=true then (!decide ((ab (ah nm l a)).f.err=(0:Int)))=true/\(291:Int)=(ab (ah nm l a)).f.err/\a=(ab (ah nm l a)).f.pos/\True else if decide (nm=[(110:UInt8),(111:UInt8),(116:UInt8)])=true then ((0:Int)<=(0:Int)/\(0:Int) < (↑(List.length l):Int))/\(!decide ((ab (ah nm l a)).f.err=(0:Int)))=false/\ku (decide (Thg.n (List.getD l (Int.toNat (0:Int)) (dfl (Ty.st SN.thing)))=(0:Int)))=(ab (ah nm l a)).v/\True else ((0:Int)<=(0:Int)/\(0:Int) < (↑(List.length l):Int))/\((0:Int)<=(1:Int)/\(1:Int) < (↑(List.length l):Int))/\(!decide ((ab (ah nm l a)).f.err=(0:Int)))=false/\ku (decide (IntKind.wrap IntKind.i64 (Thg.n (List.getD l (Int.toNat (0:Int)) (dfl (Ty.st SN.thing)))+Thg.n (List.getD l (Int.toNat (1:Int)) (dfl (Ty.st SN.thing))))=(2:Int)))=(ab (ah nm l a)).v/\True else if decide (nm=[(99:UInt8),(97:UInt8),(116:UInt8)])=true then if (!dh (2:Int) l)=true then (!decide ((ab (ah nm l a)).f.err=(0:Int)))=true/\(291:Int)=(ab (ah nm l a)).f.err/\a=(ab (ah nm l a)).f.pos/\True else if decide (nm=[(115:UInt8),(105:UInt8),(122:UInt8),(101:UInt8)])=true then ((0:Int)<=(0:Int)/\(0:Int) < (↑(List.length l):Int))/\(!decide ((ab (ah nm l a)).f.err=(0:Int)))=false/\(1:Int)=Thg.kind (ab (ah nm l a)).v/\(↑(List.length (Thg.text (List.getD l (Int.toNat (0:Int)) (dfl (Ty.st SN.thing))))):Int)=Thg.n (ab (ah nm l a)).v/\[]=Thg.pkg (ab (ah nm l a)).v/\[]=Thg.text (ab (ah nm l a)).v/\Thg.names (ab (ah nm l a)).v=[]/\Thg.parts (ab (ah nm l a)).v=[]/\Thg.fn (ab (ah nm l a)).v=none/\True else ((0:Int)<=(0:Int)/\(0:Int) < (↑(List.length l):Int))/\((0:Int)<=(1:Int)/\(1:Int) < (↑(List.length l):Int))/\inR IntKind.i64 ((↑(List.length (Thg.text (List.getD l (Int.toNat (0:Int)) (dfl (Ty.st SN.thing))))):Int)+(↑(List.length (Thg.text (List.getD l (Int.toNat (1:Int)) (dfl (Ty.st SN.thing))))):Int))/\if decide ((4096:Int) < (↑(List.length (Thg.text (List.getD l (Int.toNat (0:Int)) (dfl (Ty.st SN.thing))))):Int)+(↑(List.length (Thg.text (List.getD l (Int.toNat (1:Int)) (dfl (Ty.st SN.thing))))):Int))=true then (!decide ((ab (ah nm l a)).f.err=(0:Int)))=true/\(3:Int)=(ab (ah nm l a)).f.err/\a=(ab (ah nm l a)).f.pos/\True else ((0:Int)<=(0:Int)/\(0:Int) < (↑(List.length l):Int))/\((0:Int)<=(1:Int)/\(1:Int) < (↑(List.length l):Int))/\List.length (Thg.text (List.getD l (Int.toNat (0:Int)) (dfl (Ty.st SN.thing))))+List.length (Thg.text (List.getD l (Int.toNat (1:Int)) (dfl (Ty.st SN.thing))))<=(9223372036854775807:Nat)
  /\(!decide ((ab (ah nm l a)).f.err=(0:Int)))=false/\(2:Int)=Thg.kind (ab (ah nm l a)).v/\(0:Int)=Thg.n (ab (ah nm l a)).v/\[]=Thg.pkg (ab (ah nm l a)).v/\Thg.text (List.getD l (Int.toNat (0:Int)) (dfl (Ty.st SN.thing)))++Thg.text (List.getD l (Int.toNat (1:Int)) (dfl (Ty.st SN.thing)))=Thg.text (ab (ah nm l a)).v/\Thg.names (ab (ah nm l a)).v=[]/\Thg.parts (ab (ah nm l a)).v=[]/\Thg.fn (ab (ah nm l a)).v=none/\True else if decide (nm=[(115:UInt8),(105:UInt8),(122:UInt8),(101:UInt8)])=true then if (!dh (2:Int) l)=true then (!decide ((ab (ah nm l a)).f.err=(0:Int)))=true/\(291:Int)=(ab (ah nm l a)).f.err/\a=(ab (ah nm l a)).f.pos/\True else if decide (nm=[(115:UInt8),(105:UInt8),(122:UInt8),(101:UInt8)])=true then ((0:Int)<=(0:Int)/\(0:Int) < (↑(List.length l):Int))/\(!decide ((ab (ah nm l a)).f.err=(0:Int)))=false/\(1:Int)=Thg.kind (ab (ah nm l a)).v/\(↑(List.length (Thg.text (List.getD l (Int.toNat (0:Int)) (dfl (Ty.st SN.thing))))):Int)=Thg.n (ab (ah nm l a)).v/\[]=Thg.pkg (ab (ah nm l a)).v/\[]=Thg.text (ab (ah nm l a)).v/\Thg.names (ab (ah nm l a)).v=[]/\Thg.parts (ab (ah nm l a)).v=[]/\Thg.fn (ab (ah nm l a)).v=none/\True else ((0:Int)<=(0:Int)/\(0:Int) < (↑(List.length l):Int))/\((0:Int)<=(1:Int)/\(1:Int) < (↑(List.length l):Int))/\inR IntKind.i64 ((↑(List.length (Thg.text (List.getD l (Int.toNat (0:Int)) (dfl (Ty.st SN.thing))))):Int)+(↑(List.length (Thg.text (List.getD l (Int.toNat (1:Int)) (dfl (Ty.st SN.thing))))):Int))/\if decide ((4096:Int) < (↑(List.length (Thg.text (List.getD l (Int.toNat (0:Int)) (dfl (Ty.st SN.thing))))):Int)+(↑(List.length (Thg.text (List.getD l (Int.toNat (1:Int)) (dfl (Ty.st SN.thing))))):Int))=true then (!decide ((ab (ah nm l a)).f.err=(0:Int)))=true/\(3:Int)=(ab (ah nm l a)).f.err/\a=(ab (ah nm l a)).f.pos/\True else ((0:Int)<=(0:Int)/\(0:Int) < (↑(List.length l):Int))/\((0:Int)<=(1:Int)/\(1:Int) < (↑(List.length l):Int))/\List.length (Thg.text (List.getD l (Int.toNat (0:Int)) (dfl (Ty.st SN.thing))))+List.length (Thg.text (List.getD l (Int.toNat (1:Int)) (dfl (Ty.st SN.thing))))<=(9223372036854775807:Nat)/\(!decide ((ab (ah nm l a)).f.err=(0:Int)))=false/\(2:Int)=Thg.kind (ab (ah nm l a)).v/\(0:Int)=Thg.n (ab (ah nm l a)).v/\[]=Thg.pkg (ab (ah nm l a)).v/\Thg.text (List.getD l (Int.toNat (0:Int)) (dfl (Ty.st SN.thing)))++Thg.text (List.getD l (Int.toNat (1:Int)) (dfl (Ty.st SN.thing)))=Thg.text (ab (ah nm l a)).v/\Thg.names (ab (ah nm l a)).v=[]/\Thg.parts (ab (ah nm l a)).v=[]/\Thg.fn (ab (ah nm l a)).v=none/\True else if (!dh (1:Int) l)=true then (!decide ((ab (ah nm l a)).f.err=(0:Int)))=true/\(291:Int)=(ab (ah nm l a)).f.err/\a=(ab (ah nm l a)).f.pos/\True else ((0:Int)<=(0:Int)/\(0:Int) < (↑(List.length l):Int))/\if decide (nm=[(115:UInt8),(104:UInt8),(111:UInt8),(119:UInt8)])=true then ((10:Int)=(10:Int)/\List.length (Lib.itoa (Thg.n (List.getD l (Int.toNat (0:Int)) (dfl (Ty.st SN.thing)))))<=(1000:Nat))/\(!decide ((ab (ah nm l a)).f.err=(0:Int)))=false/\(2:Int)=Thg.kind (ab (ah nm l a)).v/\(0:Int)=Thg.n (ab (ah nm l a)).v/\[]=Thg.pkg (ab (ah nm l a)).v/\Lib.itoa (Thg.n (List.getD l (Int.toNat (0:Int)) (dfl (Ty.st SN.thing))))=Thg.text (ab (ah nm l a)).v/\Thg.names (ab (ah nm l a)).v=[]/\Thg.parts (ab (ah nm l a)).v=[]/\Thg.fn (ab (ah nm l a)).v=none/\True else ((0:Int)<=(1:Int)/\(1:Int) < (↑(List.length l):Int))
  /\if decide (nm=[(97:UInt8),(100:UInt8),(100:UInt8)])=true then (!decide ((ab (ah nm l a)).f.err=(0:Int)))=false/\(1:Int)=Thg.kind (ab (ah nm l a)).v/\IntKind.wrap IntKind.i64 (Thg.n (List.getD l (Int.toNat (0:Int)) (dfl (Ty.st SN.thing)))+Thg.n (List.getD l (Int.toNat (1:Int)) (dfl (Ty.st SN.thing))))=Thg.n (ab (ah nm l a)).v/\[]=Thg.pkg (ab (ah nm l a)).v/\[]=Thg.text (ab (ah nm l a)).v/\Thg.names (ab (ah nm l a)).v=[]/\Thg.parts (ab (ah nm l a)).v=[]/\Thg.fn (ab (ah nm l a)).v=none/\True else if decide (nm=[(115:UInt8),(117:UInt8),(98:UInt8)])=true then (!decide ((ab (ah nm l a)).f.err=(0:Int)))=false/\(1:Int)=Thg.kind (ab (ah nm l a)).v/\IntKind.wrap IntKind.i64 (Thg.n (List.getD l (Int.toNat (0:Int)) (dfl (Ty.st SN.thing))) - Thg.n (List.getD l (Int.toNat (1:Int)) (dfl (Ty.st SN.thing))))=Thg.n (ab (ah nm l a)).v/\[]=Thg.pkg (ab (ah nm l a)).v/\[]=Thg.text (ab (ah nm l a)).v/\Thg.names (ab (ah nm l a)).v=[]/\Thg.parts (ab (ah nm l a)).v=[]/\Thg.fn (ab (ah nm l a)).v=none/\True else if decide (nm=[(109:UInt8),(117:UInt8),(108:UInt8)])=true then (!decide ((ab (ah nm l a)).f.err=(0:Int)))=false/\(1:Int)=Thg.kind (ab (ah nm l a)).v/\IntKind.wrap IntKind.i64 (Thg.n (List.getD l (Int.toNat (0:Int)) (dfl (Ty.st SN.thing))) *Thg.n (List.getD l (Int.toNat (1:Int)) (dfl (Ty.st SN.thing))))=Thg.n (ab (ah nm l a)).v/\[]=Thg.pkg (ab (ah nm l a)).v/\[]=Thg.text (ab (ah nm l a)).v/\Thg.names (ab (ah nm l a)).v=[]/\Thg.parts (ab (ah nm l a)).v=[]/\Thg.fn (ab (ah nm l a)).v=none/\True else if decide (nm=[(108:UInt8),(101:UInt8),(115:UInt8),(115:UInt8)])=true then (!decide ((ab (ah nm l a)).f.err=(0:Int)))=false/\ku (decide (Thg.n (List.getD l (Int.toNat (0:Int)) (dfl (Ty.st SN.thing))) < Thg.n (List.getD l (Int.toNat (1:Int)) (dfl (Ty.st SN.thing)))))=(ab (ah nm l a)).v/\True else (!decide ((ab (ah nm l a)).f.err=(0:Int)))=false/\ku (decide (Thg.n (List.getD l (Int.toNat (0:Int)) (dfl (Ty.st SN.thing)))=Thg.n (List.getD l (Int.toNat (1:Int)) (dfl (Ty.st SN.thing)))))=(ab (ah nm l a)).v/\True:=by
 obtain ⟨e,he⟩:=Option.isSome_iff_exists.1 ho
 simp only [he,ab]
 have hne:l≠[]:=by rintro rfl;simp [ah] at he
 have h0:(0:Int) < (l.length:Int):=by have:=List.length_pos_iff.2 hne;omega
 unfold ah at he
 rw [if_neg hne] at he
 refine a8 (fun h=>?_) (fun h=>?_)
 ·rw [if_pos (Xo h)] at he
  refine a8 (fun hk=>?_) (fun hk=>?_)
  ·cases jn he hk;exact ⟨rfl,rfl,rfl,trivial⟩
  refine a8 (fun _=>?_) (fun h'=>absurd h h')
  cases cW (gS he hk)
  exact ⟨⟨by omega,h0⟩,rfl,rfl,trivial⟩
 have hn:=h
 rw [if_neg (fun q=>h (Xd q))] at he
 refine a8 (fun h=>?_) (fun h=>?_)
 ·rw [if_pos (Xo h)] at he
  refine a8 (fun hk=>?_) (fun hk=>?_)
  ·cases jn he hk;exact ⟨rfl,rfl,rfl,trivial⟩
  refine a8 (fun h'=>absurd h' hn) (fun _=>?_)
  obtain ⟨q,h2⟩:=rM (gS he hk)
  cases cW q
  exact ⟨⟨by omega,h0⟩,⟨by omega,h2⟩,rfl,rfl,trivial⟩
 rw [if_neg (fun q=>h (Xd q))] at he
 have size:∀{r:Option Ev},(k9 2 l a (okE (lP (tH0 l).length) 0)=some e)→nm=[115,105,122,101]→True:=fun _ _=>trivial
 refine a8 (fun h=>?_) (fun h=>?_)
 ·rw [if_pos (Xo h)] at he
  refine a8 (fun hk=>?_) (fun hk=>?_)
  ·cases jn he hk;exact ⟨rfl,rfl,rfl,trivial⟩
  refine a8 (fun h'=>?_) (fun _=>?_)
  ·have e1:=Xo h;rw [e1] at h';exact absurd (Xo h') (by decide)
  obtain ⟨q,h2⟩:=rM (gS he hk)
  unfold catE at q
  split at q
  ·cases q
  rename_i hb
  have b1:(tH0 l).length<=1000000000000000000:=by omega
  have b2:(tH1 l).length<=1000000000000000000:=by omega
  refine ⟨⟨by omega,h0⟩,⟨by omega,h2⟩,bM (by show (-9223372036854775808:Int)<=((tH0 l).length:Int)+((tH1 l).length:Int);omega) (by show ((tH0 l).length:Int)+((tH1 l).length:Int)<=9223372036854775807;omega),a8 (fun hc=>?_) (fun hc=>?_)⟩
  ·have hc:(4096:Int) < ((tH0 l).length:Int)+((tH1 l).length:Int):=Xo hc
   rw [if_pos (by omega)] at q
   cases dm q
   exact ⟨rfl,rfl,rfl,trivial⟩
  ·have hc:¬(4096:Int) < ((tH0 l).length:Int)+((tH1 l).length:Int):=fun x=>hc (Xd x)
   rw [if_neg (by omega)] at q
   cases cW q
   exact ⟨⟨by omega,h0⟩,⟨by omega,h2⟩,(by show (tH0 l).length+(tH1 l).length<=_;omega),rfl,rfl,rfl,rfl,rfl,rfl,rfl,rfl,trivial⟩
 rw [if_neg (fun q=>h (Xd q))] at he
 refine a8 (fun h=>?_) (fun h=>?_)
 ·rw [if_pos (Xo h)] at he
  refine a8 (fun hk=>?_) (fun hk=>?_)
  ·cases jn he hk;exact ⟨rfl,rfl,rfl,trivial⟩
  refine a8 (fun _=>?_) (fun h'=>absurd h h')
  cases cW (gS he hk)
  exact ⟨⟨by omega,h0⟩,rfl,rfl,rfl,rfl,rfl,rfl,rfl,rfl,trivial⟩
 rw [if_neg (fun q=>h (Xd q))] at he
 refine a8 (fun hk=>?_) (fun hk=>?_)
 ·cases jn he hk;exact ⟨rfl,rfl,rfl,trivial⟩
 have q:=gS he hk
 unfold numE at q
 refine ⟨⟨by omega,h0⟩,a8 (fun h=>?_) (fun h=>?_)⟩
 ·rw [if_pos (Xo h)] at q
  split at q
  ·cases q
  rename_i hb
  cases cW q
  exact ⟨⟨trivial,by show (Lib.itoa (nH0 l)).length<=1000;omega⟩,rfl,rfl,rfl,rfl,rfl,rfl,rfl,rfl,trivial⟩
 rw [if_neg (fun x=>h (Xd x))] at q
 obtain ⟨q,h2⟩:=rM q
 refine ⟨⟨by omega,h2⟩,?_⟩
 have q:=cW q
 refine a8 (fun h=>?_) (fun h=>?_)
 ·rw [if_pos (Xo h)] at q;cases q;exact ⟨rfl,rfl,rfl,rfl,rfl,rfl,rfl,rfl,trivial⟩
 rw [if_neg (fun x=>h (Xd x))] at q
 refine a8 (fun h=>?_) (fun h=>?_)
 ·rw [if_pos (Xo h)] at q;cases q;exact ⟨rfl,rfl,rfl,rfl,rfl,rfl,rfl,rfl,trivial⟩
 rw [if_neg (fun x=>h (Xd x))] at q
 refine a8 (fun h=>?_) (fun h=>?_)
 ·rw [if_pos (Xo h)] at q;cases q;exact ⟨rfl,rfl,rfl,rfl,rfl,rfl,rfl,rfl,trivial⟩
 rw [if_neg (fun x=>h (Xd x))] at q
 refine a8 (fun h=>?_) (fun h=>?_)
 ·rw [if_pos (Xo h)] at q;cases q;exact ⟨rfl,rfl,trivial⟩
 rw [if_neg (fun x=>h (Xd x))] at q
 cases q;exact ⟨rfl,rfl,trivial⟩
theorem Cj (n:Nat) (l:List Trm) (p:Plc) (st mo:Int) (hl:Wf (.lst (.st .term)) l) (hp:Wf (.st .plc) p) (ho:(an (fun x=>a7 mo n x p) l st).isSome=true) :
  ((0:Int)<=(↑(List.length l):Int)/\(↑(List.length l):Int) *(↑(104:Nat):Int)<=(140737488355328:Int))/\(∃(x:Nat × List Thg × Int),(x.1<=List.length l/\List.length x.2.1=x.1/\lQ (fun (y:Trm) ↦a7 mo n y p) (List.drop x.1 l) x.2.1 x.2.2=an (fun (y:Trm) ↦a7 mo n y p) l st)/\(0:Int)=(↑x.1:Int)/\[]=x.2.1/\l=l/\p=p/\(↑(List.length l):Int)=(↑(List.length l):Int)/\(0:Nat)=List.length x.2.1/\st=x.2.2/\mo=mo/\p=p/\True)/\∀(x:Nat × List Thg × Int),x.1<=List.length l/\List.length x.2.1=x.1/\lQ (fun (y:Trm) ↦a7 mo n y p) (List.drop x.1 l) x.2.1 x.2.2=an (fun (y:Trm) ↦a7 mo n y p) l st→if decide ((↑x.1:Int) < (↑(List.length l):Int))=true then ((0:Int)<=(↑x.1:Int)/\(↑x.1:Int) < (↑(List.length l):Int))/\(Option.isSome (some (List.getD l (Int.toNat (↑x.1:Int)) (dfl (Ty.st SN.term))))=true/\Option.isSome (a7 mo n (List.getD l (Int.toNat (↑x.1:Int)) (dfl (Ty.st SN.term))) p x.2.2)=true)/\if (!decide ((ab (a7 mo n (List.getD l (Int.toNat (↑x.1:Int)) (dfl (Ty.st SN.term))) p x.2.2)).f.err=(0:Int)))=true then (!decide ((bW (an (fun (y:Trm) ↦a7 mo n y p) l st)).f.err=(0:Int)))=true/\(ab (a7 mo n (List.getD l (Int.toNat (↑x.1:Int)) (dfl (Ty.st SN.term))) p x.2.2)).f.err=(bW (an (fun (y:Trm) ↦a7 mo n y p) l st)).f.err/\(ab (a7 mo n (List.getD l (Int.toNat (↑x.1:Int)) (dfl (Ty.st SN.term))) p x.2.2)).f.pos=(bW (an (fun (y:Trm) ↦a7 mo n y p) l st)).f.pos/\(ab (a7 mo n (List.getD l (Int.toNat (↑x.1:Int)) (dfl (Ty.st SN.term))) p x.2.2)).st=(bW (an (fun (y:Trm) ↦a7 mo n y p) l st)).st/\mo=mo/\True else (List.length x.2.1=List.length x.2.1/\(List.length x.2.1+List.length [(ab (a7 mo n (List.getD l (Int.toNat (↑x.1:Int)) (dfl (Ty.st SN.term))) p x.2.2)).v]) *(104:Nat)<=(140737488355328:Nat))/\inR IntKind.i64 ((↑x.1:Int)+(1:Int))/\∃(y:Nat × List Thg × Int),(y.1<=List.length l/\List.length y.2.1=y.1/\lQ (fun (y:Trm) ↦a7 mo n y p) (List.drop y.1 l) y.2.1 y.2.2=an (fun (y:Trm) ↦a7 mo n y p) l st)/\List.length l - y.1 < List.length l - x.1/\(↑x.1:Int)+(1:Int)=(↑y.1:Int)/\x.2.1++[(ab (a7 mo n (List.getD l (Int.toNat (↑x.1:Int)) (dfl (Ty.st SN.term))) p x.2.2)).v]=y.2.1/\l=l/\p=p/\(↑(List.length l):Int)=(↑(List.length l):Int)/\List.length (x.2.1++[(ab (a7 mo n (List.getD l (Int.toNat (↑x.1:Int)) (dfl (Ty.st SN.term))) p x.2.2)).v])=List.length y.2.1/\(ab (a7 mo n (List.getD l (Int.toNat (↑x.1:Int)) (dfl (Ty.st SN.term))) p x.2.2)).st=y.2.2/\mo=mo/\p=p/\True else (!decide ((bW (an (fun (y:Trm) ↦a7 mo n y p) l st)).f.err=(0:Int)))=false/\x.2.1=(bW (an (fun (y:Trm) ↦a7 mo n y p) l st)).vs/\x.2.2=(bW (an (fun (y:Trm) ↦a7 mo n y p) l st)).st/\mo=mo/\True:=by
 have ln:=hl.len
 obtain ⟨e,he⟩:=Option.isSome_iff_exists.1 ho
 have hb:l.length<=1000000:=by
  unfold an at he
  split at he
  ·cases he
  ·omega
 have hp0:lQ (fun x=>a7 mo n x p) l [] st=some e:=by
  unfold an at he
  rw [if_neg (by omega)] at he
  exact he
 simp only [he,bW,Int.toNat_natCast]
 refine ⟨⟨by omega,by omega⟩,⟨(0,[],st),⟨Nat.zero_le _,rfl,by rw [List.drop_zero];exact hp0⟩,(by repeat' (first | exact trivial | rfl | apply And.intro))⟩,?_⟩
 rintro ⟨k,out,s'⟩ ⟨h1,h2,h3⟩
 simp only at h1 h2 h3 ⊢
 refine a8 (fun h=>?_) (fun h=>?_)
 ·have hk:k < l.length:=by have:=Xo h;omega
  rw [bf l k (dfl (Ty.st SN.term)) hk] at h3
  simp only [lQ] at h3
  obtain ⟨v,hv⟩:∃v,a7 mo n (l.getD k (dfl (Ty.st SN.term))) p s'=some v:=by
   cases q:a7 mo n (l.getD k (dfl (Ty.st SN.term))) p s' with
   | none=>rw [q] at h3;cases h3
   | some v=>exact ⟨v,rfl⟩
  ·rw [hv] at h3
   simp only at h3
   simp only [hv,ab]
   refine ⟨⟨by omega,by omega⟩,⟨rfl,rfl⟩,a8 (fun hc=>?_) (fun hc=>?_)⟩
   ·have hc':¬v.f.err=0:=by simpa using hc
    rw [if_neg hc'] at h3
    cases h3
    exact ⟨hc,(by repeat' (first | exact trivial | rfl | apply And.intro))⟩
   ·have hc':v.f.err=0:=by simpa using hc
    rw [if_pos hc'] at h3
    refine ⟨⟨trivial,by simp only [List.length_singleton];omega⟩,bV hk ln,(k+1,out++[v.v],v.st),⟨by omega,by simp [h2],h3⟩,by simp only;omega,by simp only;omega,(by repeat' (first | exact trivial | rfl | apply And.intro))⟩
 ·have e1:k=l.length:=by have q:¬_:=fun q=>h (Xd q);omega
  subst e1
  rw [List.drop_length] at h3
  simp only [lQ] at h3
  cases h3
  exact (by repeat' (first | exact trivial | rfl | apply And.intro))
theorem AQ (n:Nat) (t:Trm) (l:List Thg) (st mo:Int) (ht:Wf (.st .term) t) (hl:Wf (.lst (.st .thing)) l) (ho:(bw (a7 mo n) mo t.pos l st).isSome=true) :
  ((0:Int)<=(0:Int)/\(0:Int) < (↑(List.length l):Int))/\if Ai l=true then Option.isSome (some t)=true/\(!decide ((ab (bw (a7 mo n) mo t.pos l st)).f.err=(0:Int)))=true/\(291:Int)=(ab (bw (a7 mo n) mo t.pos l st)).f.err/\t.pos=(ab (bw (a7 mo n) mo t.pos l st)).f.pos/\st=(ab (bw (a7 mo n) mo t.pos l st)).st/\mo=mo/\True else oI l=true/\inR IntKind.i64 ((↑(List.length l):Int) - (1:Int))/\if (!decide (Fnc.args (fcn l)=(↑(List.length l):Int) - (1:Int)))=true then Option.isSome (some t)=true/\(!decide ((ab (bw (a7 mo n) mo t.pos l st)).f.err=(0:Int)))=true/\(291:Int)=(ab (bw (a7 mo n) mo t.pos l st)).f.err/\t.pos=(ab (bw (a7 mo n) mo t.pos l st)).f.pos/\st=(ab (bw (a7 mo n) mo t.pos l st)).st/\mo=mo/\True else if decide (st=mo)=true then Option.isSome (some t)=true/\(!decide ((ab (bw (a7 mo n) mo t.pos l st)).f.err=(0:Int)))=true/\(292:Int)=(ab (bw (a7 mo n) mo t.pos l st)).f.err/\t.pos=(ab (bw (a7 mo n) mo t.pos l st)).f.pos/\st=(ab (bw (a7 mo n) mo t.pos l st)).st/\mo=mo/\True else inR IntKind.i64 (st+(1:Int))/\oI l=true/\if Option.isNone (Fnc.body (fcn l))=true then oI l=true/\((0:Int)<=(1:Int)/\(1:Int)<=(↑(List.length l):Int)/\(↑(List.length l):Int)<=(↑(List.length l):Int))/\Option.isSome (some t)=true/\Option.isSome (ah (Fnc.basic (fcn l)) (List.drop (Int.toNat (1:Int)) (List.take (Int.toNat (↑(List.length l):Int)) l)) t.pos)=true/\if (!decide ((ab (ah (Fnc.basic (fcn l)) (List.drop (Int.toNat (1:Int)) (List.take (Int.toNat (↑(List.length l):Int)) l)) t.pos)).f.err=(0:Int)))=true then (!decide ((ab (bw (a7 mo n) mo t.pos l st)).f.err=(0:Int)))=true/\(ab (ah (Fnc.basic (fcn l)) (List.drop (Int.toNat (1:Int)) (List.take (Int.toNat (↑(List.length l):Int)) l)) t.pos)).f.err=(ab (bw (a7 mo n) mo t.pos l st)).f.err/\(ab (ah (Fnc.basic (fcn l)) (List.drop (Int.toNat (1:Int)) (List.take (Int.toNat (↑(List.length l):Int)) l)) t.pos)).f.pos=(ab (bw (a7 mo n) mo t.pos l st)).f.pos/\st+(1:Int)=(ab (bw (a7 mo n) mo t.pos l st)).st/\mo=mo/\True else (!decide ((ab (bw (a7 mo n) mo t.pos l st)).f.err=(0:Int)))=false/\(ab (ah (Fnc.basic (fcn l)) (List.drop (Int.toNat (1:Int)) (List.take (Int.toNat (↑(List.length l):Int)) l)) t.pos)).v=(ab (bw (a7 mo n) mo t.pos l st)).v/\st+(1:Int)=(ab (bw (a7 mo n) mo t.pos l st)).st/\mo=mo/\True else oI l=true/\oI l=true/\(∃(x:Nat × Option Scp),(x.1<=List.length (Fnc.names (fcn l))/\dq x.2 (List.drop x.1 (Fnc.names (fcn l))) (List.drop (x.1+(1:Nat)) l)=dq (Fnc.scp (fcn l)) (Fnc.names (fcn l)) (List.drop (1:Nat) l))/\(0:Int)=(↑x.1:Int)/\some t=some t/\l=l/\Thg.fn (List.getD l (Int.toNat (0:Int)) (dfl (Ty.st SN.thing)))=Thg.fn (List.getD l (Int.toNat (0:Int)) (dfl (Ty.st SN.thing)))/\false=false/\false=false/\false=false/\Fnc.names (fcn l)=Fnc.names (fcn l)/\(↑(List.length (Fnc.names (fcn l))):Int)=(↑(List.length (Fnc.names (fcn l))):Int)/\Fnc.scp (fcn l)=x.2/\Fnc.self (fcn l)=Fnc.self (fcn l)/\st+(1:Int)=st+(1:Int)/\mo=mo/\(0:Int)=(0:Int)/\(0:Int)=(0:Int)/\bA UInt8=bA UInt8/\bA UInt8=bA UInt8/\True)/\∀(x:Nat × Option Scp),x.1<=List.length (Fnc.names (fcn l))/\dq x.2 (List.drop x.1 (Fnc.names (fcn l))) (List.drop (x.1+(1:Nat)) l)=dq (Fnc.scp (fcn l)) (Fnc.names (fcn l)) (List.drop (1:Nat) l)→if decide ((↑x.1:Int) < (↑(List.length (Fnc.names (fcn l))):Int))=true then ((0:Int)<=(↑x.1:Int)/\(↑x.1:Int) < (↑(List.length (Fnc.names (fcn l))):Int))/\inR IntKind.i64 ((↑x.1:Int)+(1:Int))/\((0:Int)<=(↑x.1:Int)+(1:Int)
  /\(↑x.1:Int)+(1:Int) < (↑(List.length l):Int))/\inR IntKind.i64 ((↑x.1:Int)+(1:Int))/\∃(y:Nat × Option Scp),(y.1<=List.length (Fnc.names (fcn l))/\dq y.2 (List.drop y.1 (Fnc.names (fcn l))) (List.drop (y.1+(1:Nat)) l)=dq (Fnc.scp (fcn l)) (Fnc.names (fcn l)) (List.drop (1:Nat) l))/\List.length (Fnc.names (fcn l)) - y.1 < List.length (Fnc.names (fcn l)) - x.1/\(↑x.1:Int)+(1:Int)=(↑y.1:Int)/\some t=some t/\l=l/\Thg.fn (List.getD l (Int.toNat (0:Int)) (dfl (Ty.st SN.thing)))=Thg.fn (List.getD l (Int.toNat (0:Int)) (dfl (Ty.st SN.thing)))/\false=false/\false=false/\false=false/\Fnc.names (fcn l)=Fnc.names (fcn l)/\(↑(List.length (Fnc.names (fcn l))):Int)=(↑(List.length (Fnc.names (fcn l))):Int)/\cA x.2 [] (List.getD (Fnc.names (fcn l)) (Int.toNat (↑x.1:Int)) (dfl Ty.str)) (List.getD l (Int.toNat ((↑x.1:Int)+(1:Int))) (dfl (Ty.st SN.thing)))=y.2/\Fnc.self (fcn l)=Fnc.self (fcn l)/\st+(1:Int)=st+(1:Int)/\mo=mo/\(0:Int)=(0:Int)/\(0:Int)=(0:Int)/\bA UInt8=bA UInt8/\bA UInt8=bA UInt8/\True else oI l=true/\(Option.isSome (Fnc.body (fcn l))=true/\Option.isSome (a7 mo n (Option.getD (Fnc.body (fcn l)) default) {scp:=x.2,self:=Fnc.self (fcn l):Plc} (st+(1:Int)))=true)/\if (!decide ((ab (a7 mo n (Option.getD (Fnc.body (fcn l)) default) {scp:=x.2,self:=Fnc.self (fcn l):Plc} (st+(1:Int)))).f.err=(0:Int)))=true then (!decide ((ab (bw (a7 mo n) mo t.pos l st)).f.err=(0:Int)))=true/\(ab (a7 mo n (Option.getD (Fnc.body (fcn l)) default) {scp:=x.2,self:=Fnc.self (fcn l):Plc} (st+(1:Int)))).f.err=(ab (bw (a7 mo n) mo t.pos l st)).f.err/\(ab (a7 mo n (Option.getD (Fnc.body (fcn l)) default) {scp:=x.2,self:=Fnc.self (fcn l):Plc} (st+(1:Int)))).f.pos=(ab (bw (a7 mo n) mo t.pos l st)).f.pos/\(ab (a7 mo n (Option.getD (Fnc.body (fcn l)) default) {scp:=x.2,self:=Fnc.self (fcn l):Plc} (st+(1:Int)))).st=(ab (bw (a7 mo n) mo t.pos l st)).st/\mo=mo/\True else (!decide ((ab (bw (a7 mo n) mo t.pos l st)).f.err=(0:Int)))=false/\(ab (a7 mo n (Option.getD (Fnc.body (fcn l)) default) {scp:=x.2,self:=Fnc.self (fcn l):Plc} (st+(1:Int)))).v=(ab (bw (a7 mo n) mo t.pos l st)).v/\(ab (a7 mo n (Option.getD (Fnc.body (fcn l)) default) {scp:=x.2,self:=Fnc.self (fcn l):Plc} (st+(1:Int)))).st=(ab (bw (a7 mo n) mo t.pos l st)).st/\mo=mo/\True:=by
 have ln:=hl.len
 obtain ⟨e,he⟩:=Option.isSome_iff_exists.1 ho
 have e1:List.drop (Int.toNat (1:Int)) (List.take (Int.toNat (l.length:Int)) l)=l.drop 1:=by simp
 simp only [he,bY,e1]
 unfold bw at he
 split at he
 ·cases he
 rename_i h0
 have hst:yr mo st:=by
  by_cases q:yr mo st
  ·exact q
  ·exact absurd (.inl q) h0
 obtain ⟨s0,s1,s2⟩:=hst
 have hlen:0 < l.length:=by
  rcases Nat.eq_zero_or_pos l.length with q | q
  ·exact absurd (.inr (.inl q)) h0
  ·exact q
 have hbig:l.length<=1000000:=by
  rcases Nat.lt_or_ge 1000000 l.length with q | q
  ·exact absurd (.inr (.inr q)) h0
  ·exact q
 refine ⟨⟨by omega,by omega⟩,a8 (fun hf=>?_) (fun hf=>?_)⟩
 ·rw [if_neg (fun q=>by rw [D8 hf] at q;exact absurd q.1 (by decide))] at he
  cases dm he
  exact (by repeat' (first | exact trivial | rfl | apply And.intro))
 have hF:=D9 hf
 refine ⟨hF,bM (by omega) (by omega),a8 (fun hc=>?_) (fun hc=>?_)⟩
 ·rw [if_neg (fun q=>ej hc q.2)] at he
  cases dm he
  exact (by repeat' (first | exact trivial | rfl | apply And.intro))
 rw [if_pos ⟨hF,eK hc⟩] at he
 refine a8 (fun hs=>?_) (fun hs=>?_)
 ·rw [if_pos (Xo hs)] at he
  cases dm he
  exact (by repeat' (first | exact trivial | rfl | apply And.intro))
 have hs':¬st=mo:=fun q=>hs (Xd q)
 rw [if_neg hs'] at he
 unfold CF at he
 refine ⟨bM (by omega) (by omega),hF,a8 (fun hb=>?_) (fun hb=>?_)⟩
 ·have hb:(fcn l).body=none:=by simpa using hb
  rw [hb] at he
  simp only at he
  obtain ⟨v,hv⟩:=dB (r:=ah (fcn l).basic (l.drop 1) t.pos) (fun q=>by rw [q] at he;cases he)
  rw [hv] at he
  cases he
  simp only [hv,bY]
  refine ⟨hF,⟨by omega,by omega,by omega⟩,rfl,rfl,a8 (fun q=>?_) (fun q=>?_)⟩
  ·exact ⟨q,(by repeat' (first | exact trivial | rfl | apply And.intro))⟩
  ·exact ⟨by simpa using q,(by repeat' (first | exact trivial | rfl | apply And.intro))⟩
 obtain ⟨b,hb⟩:=dB (r:=(fcn l).body) (fun q=>hb (by rw [q];rfl))
 rw [hb] at he
 simp only at he
 obtain ⟨sc,hsc⟩:=dB (r:=dq (fcn l).scp (fcn l).names (l.drop 1)) (fun q=>by rw [q] at he;cases he)
 rw [hsc] at he
 simp only at he
 simp only [hsc,Int.toNat_natCast]
 refine ⟨hF,hF,⟨(0,(fcn l).scp),⟨Nat.zero_le _,by rw [List.drop_zero];exact hsc⟩,(by repeat' (first | exact trivial | rfl | apply And.intro))⟩,?_⟩
 rintro ⟨k,s'⟩ ⟨h1,h2⟩
 simp only at h1 h2 ⊢
 have hkl:∀k s',dq s' ((fcn l).names.drop k) (l.drop (k+1))=some sc→k < (fcn l).names.length→k+1 < l.length/\dq (cA s' [] ((fcn l).names.getD k (dfl Ty.str)) (l.getD (k+1) (dfl (Ty.st SN.thing)))) ((fcn l).names.drop (k+1)) (l.drop (k+2))=some sc:=by
  intro k s' h hk
  rw [bf (fcn l).names k (dfl Ty.str) hk] at h
  have hl2:k+1 < l.length:=by
   rcases Nat.lt_or_ge (k+1) l.length with q | q
   ·exact q
   ·rw [List.drop_of_length_le q] at h;cases h
  refine ⟨hl2,?_⟩
  rw [bf l (k+1) (dfl (Ty.st SN.thing)) hl2] at h
  exact h
 refine a8 (fun h=>?_) (fun h=>?_)
 ·have hk:k < (fcn l).names.length:=by have:=Xo h;omega
  obtain ⟨g1,g2⟩:=hkl k s' h2 hk
  have e2:Int.toNat ((k:Int)+1)=k+1:=by omega
  simp only [e2]
  exact ⟨⟨by omega,by omega⟩,bM (by omega) (by omega),⟨by omega,by omega⟩,bM (by omega) (by omega),(k+1,cA s' [] ((fcn l).names.getD k (dfl Ty.str)) (l.getD (k+1) (dfl (Ty.st SN.thing)))),⟨by simp only;omega,g2⟩,by simp only;omega,by simp only;omega,(by repeat' (first | exact trivial | rfl | apply And.intro))⟩
 ·have e1:k=(fcn l).names.length:=by have q:¬_:=fun q=>h (Xd q);omega
  subst e1
  rw [List.drop_length] at h2
  have h2:s'=sc:=Option.some.inj h2
  subst h2
  have hb2:Option.getD (some b) default=b:=rfl
  simp only [hb,hb2,he,bY]
  exact ⟨hF,⟨rfl,rfl⟩,a8 (fun q=>⟨q,(by repeat' (first | exact trivial | rfl | apply And.intro))⟩) (fun q=>⟨by simpa using q,(by repeat' (first | exact trivial | rfl | apply And.intro))⟩)⟩
theorem vT (n:Nat) (t:Trm) (p:Plc) (st mo:Int) (ht:Wf (.st .term) t) (hp:Wf (.st .plc) p) (ho:(al (a7 mo n) t p st).isSome=true) :
  Option.isSome (some t)=true/\((0:Int)<=(0:Int)/\(0:Int) < (↑(List.length t.parts):Int))/\(Option.isSome (some (List.getD t.parts (Int.toNat (0:Int)) (dfl (Ty.st SN.term))))=true/\Option.isSome (a7 mo n (List.getD t.parts (Int.toNat (0:Int)) (dfl (Ty.st SN.term))) p st)=true)/\if (!decide ((ab (a7 mo n (List.getD t.parts (Int.toNat (0:Int)) (dfl (Ty.st SN.term))) p st)).f.err=(0:Int)))=true then (!decide ((ab (al (a7 mo n) t p st)).f.err=(0:Int)))=true/\(ab (a7 mo n (List.getD t.parts (Int.toNat (0:Int)) (dfl (Ty.st SN.term))) p st)).f.err=(ab (al (a7 mo n) t p st)).f.err/\(ab (a7 mo n (List.getD t.parts (Int.toNat (0:Int)) (dfl (Ty.st SN.term))) p st)).f.pos=(ab (al (a7 mo n) t p st)).f.pos/\(ab (a7 mo n (List.getD t.parts (Int.toNat (0:Int)) (dfl (Ty.st SN.term))) p st)).st=(ab (al (a7 mo n) t p st)).st/\mo=mo/\True else Option.isSome (some t)=true/\if decide (t.kind=(9:Int))=true then Option.isSome (some t)=true/\if (!decide (Thg.kind (ab (a7 mo n (List.getD t.parts (Int.toNat (0:Int)) (dfl (Ty.st SN.term))) p st)).v=(5:Int)))=true then Option.isSome (some t)=true/\(!decide ((ab (al (a7 mo n) t p st)).f.err=(0:Int)))=true/\(291:Int)=(ab (al (a7 mo n) t p st)).f.err/\t.pos=(ab (al (a7 mo n) t p st)).f.pos/\(ab (a7 mo n (List.getD t.parts (Int.toNat (0:Int)) (dfl (Ty.st SN.term))) p st)).st=(ab (al (a7 mo n) t p st)).st/\mo=mo/\True else if decide (ba (Thg.names (ab (a7 mo n (List.getD t.parts (Int.toNat (0:Int)) (dfl (Ty.st SN.term))) p st)).v) t.name (0:Int) < (0:Int))=true then Option.isSome (some t)=true/\(!decide ((ab (al (a7 mo n) t p st)).f.err=(0:Int)))=true/\(291:Int)=(ab (al (a7 mo n) t p st)).f.err/\t.pos=(ab (al (a7 mo n) t p st)).f.pos/\(ab (a7 mo n (List.getD t.parts (Int.toNat (0:Int)) (dfl (Ty.st SN.term))) p st)).st=(ab (al (a7 mo n) t p st)).st/\mo=mo/\True else ((0:Int)<=ba (Thg.names (ab (a7 mo n (List.getD t.parts (Int.toNat (0:Int)) (dfl (Ty.st SN.term))) p st)).v) t.name (0:Int)/\ba (Thg.names (ab (a7 mo n (List.getD t.parts (Int.toNat (0:Int)) (dfl (Ty.st SN.term))) p st)).v) t.name (0:Int) < (↑(List.length (Thg.parts (ab (a7 mo n (List.getD t.parts (Int.toNat (0:Int)) (dfl (Ty.st SN.term))) p st)).v)):Int))/\(!decide ((ab (al (a7 mo n) t p st)).f.err=(0:Int)))=false/\List.getD (Thg.parts (ab (a7 mo n (List.getD t.parts (Int.toNat (0:Int)) (dfl (Ty.st SN.term))) p st)).v) (Int.toNat (ba (Thg.names (ab (a7 mo n (List.getD t.parts (Int.toNat (0:Int)) (dfl (Ty.st SN.term))) p st)).v) t.name (0:Int))) (dfl (Ty.st SN.thing))=(ab (al (a7 mo n) t p st)).v/\(ab (a7 mo n (List.getD t.parts (Int.toNat (0:Int)) (dfl (Ty.st SN.term))) p st)).st=(ab (al (a7 mo n) t p st)).st/\mo=mo/\True else if decide (t.kind=(12:Int))=true then if (!decide (Thg.kind (ab (a7 mo n (List.getD t.parts (Int.toNat (0:Int)) (dfl (Ty.st SN.term))) p st)).v=(3:Int)))=true then Option.isSome (some t)=true/\(!decide ((ab (al (a7 mo n) t p st)).f.err=(0:Int)))=true/\(291:Int)=(ab (al (a7 mo n) t p st)).f.err/\t.pos=(ab (al (a7 mo n) t p st)).f.pos/\(ab (a7 mo n (List.getD t.parts (Int.toNat (0:Int)) (dfl (Ty.st SN.term))) p st)).st=(ab (al (a7 mo n) t p st)).st/\mo=mo/\True else Option.isSome (some t)=true/\inR IntKind.i64 ((2:Int) - Thg.n (ab (a7 mo n (List.getD t.parts (Int.toNat (0:Int)) (dfl (Ty.st SN.term))) p st)).v)/\((0:Int)<=(2:Int) - Thg.n (ab (a7 mo n (List.getD t.parts (Int.toNat (0:Int)) (dfl (Ty.st SN.term))) p st)).v
  /\(2:Int) - Thg.n (ab (a7 mo n (List.getD t.parts (Int.toNat (0:Int)) (dfl (Ty.st SN.term))) p st)).v < (↑(List.length t.parts):Int))/\(Option.isSome (some (List.getD t.parts (Int.toNat ((2:Int) - Thg.n (ab (a7 mo n (List.getD t.parts (Int.toNat (0:Int)) (dfl (Ty.st SN.term))) p st)).v)) (dfl (Ty.st SN.term))))=true/\Option.isSome (a7 mo n (List.getD t.parts (Int.toNat ((2:Int) - Thg.n (ab (a7 mo n (List.getD t.parts (Int.toNat (0:Int)) (dfl (Ty.st SN.term))) p st)).v)) (dfl (Ty.st SN.term))) p (ab (a7 mo n (List.getD t.parts (Int.toNat (0:Int)) (dfl (Ty.st SN.term))) p st)).st)=true)/\if (!decide ((ab (a7 mo n (List.getD t.parts (Int.toNat ((2:Int) - Thg.n (ab (a7 mo n (List.getD t.parts (Int.toNat (0:Int)) (dfl (Ty.st SN.term))) p st)).v)) (dfl (Ty.st SN.term))) p (ab (a7 mo n (List.getD t.parts (Int.toNat (0:Int)) (dfl (Ty.st SN.term))) p st)).st)).f.err=(0:Int)))=true then (!decide ((ab (al (a7 mo n) t p st)).f.err=(0:Int)))=true/\(ab (a7 mo n (List.getD t.parts (Int.toNat ((2:Int) - Thg.n (ab (a7 mo n (List.getD t.parts (Int.toNat (0:Int)) (dfl (Ty.st SN.term))) p st)).v)) (dfl (Ty.st SN.term))) p (ab (a7 mo n (List.getD t.parts (Int.toNat (0:Int)) (dfl (Ty.st SN.term))) p st)).st)).f.err=(ab (al (a7 mo n) t p st)).f.err/\(ab (a7 mo n (List.getD t.parts (Int.toNat ((2:Int) - Thg.n (ab (a7 mo n (List.getD t.parts (Int.toNat (0:Int)) (dfl (Ty.st SN.term))) p st)).v)) (dfl (Ty.st SN.term))) p (ab (a7 mo n (List.getD t.parts (Int.toNat (0:Int)) (dfl (Ty.st SN.term))) p st)).st)).f.pos=(ab (al (a7 mo n) t p st)).f.pos/\(ab (a7 mo n (List.getD t.parts (Int.toNat ((2:Int) - Thg.n (ab (a7 mo n (List.getD t.parts (Int.toNat (0:Int)) (dfl (Ty.st SN.term))) p st)).v)) (dfl (Ty.st SN.term))) p (ab (a7 mo n (List.getD t.parts (Int.toNat (0:Int)) (dfl (Ty.st SN.term))) p st)).st)).st=(ab (al (a7 mo n) t p st)).st/\mo=mo/\True else (!decide ((ab (al (a7 mo n) t p st)).f.err=(0:Int)))=false/\(ab (a7 mo n (List.getD t.parts (Int.toNat ((2:Int) - Thg.n (ab (a7 mo n (List.getD t.parts (Int.toNat (0:Int)) (dfl (Ty.st SN.term))) p st)).v)) (dfl (Ty.st SN.term))) p (ab (a7 mo n (List.getD t.parts (Int.toNat (0:Int)) (dfl (Ty.st SN.term))) p st)).st)).v=(ab (al (a7 mo n) t p st)).v/\(ab (a7 mo n (List.getD t.parts (Int.toNat ((2:Int) - Thg.n (ab (a7 mo n (List.getD t.parts (Int.toNat (0:Int)) (dfl (Ty.st SN.term))) p st)).v)) (dfl (Ty.st SN.term))) p (ab (a7 mo n (List.getD t.parts (Int.toNat (0:Int)) (dfl (Ty.st SN.term))) p st)).st)).st=(ab (al (a7 mo n) t p st)).st/\mo=mo/\True else if decide (t.kind=(13:Int))=true then Option.isSome (some t)=true/\if (!decide (Thg.kind (ab (a7 mo n (List.getD t.parts (Int.toNat (0:Int)) (dfl (Ty.st SN.term))) p st)).v=(6:Int)))=true then Option.isSome (some t)=true/\(!decide ((ab (al (a7 mo n) t p st)).f.err=(0:Int)))=true/\(291:Int)=(ab (al (a7 mo n) t p st)).f.err/\t.pos=(ab (al (a7 mo n) t p st)).f.pos/\(ab (a7 mo n (List.getD t.parts (Int.toNat (0:Int)) (dfl (Ty.st SN.term))) p st)).st=(ab (al (a7 mo n) t p st)).st/\mo=mo/\True else if decide (ba t.names (Thg.text (ab (a7 mo n (List.getD t.parts (Int.toNat (0:Int)) (dfl (Ty.st SN.term))) p st)).v) (0:Int) < (0:Int))=true then Option.isSome (some t)=true/\(!decide ((ab (al (a7 mo n) t p st)).f.err=(0:Int)))=true/\(291:Int)=(ab (al (a7 mo n) t p st)).f.err/\t.pos=(ab (al (a7 mo n) t p st)).f.pos/\(ab (a7 mo n (List.getD t.parts (Int.toNat (0:Int)) (dfl (Ty.st SN.term))) p st)).st=(ab (al (a7 mo n) t p st)).st/\mo=mo/\True else Option.isSome (some t)=true
  /\inR IntKind.i64 (ba t.names (Thg.text (ab (a7 mo n (List.getD t.parts (Int.toNat (0:Int)) (dfl (Ty.st SN.term))) p st)).v) (0:Int)+(1:Int))/\((0:Int)<=ba t.names (Thg.text (ab (a7 mo n (List.getD t.parts (Int.toNat (0:Int)) (dfl (Ty.st SN.term))) p st)).v) (0:Int)+(1:Int)/\ba t.names (Thg.text (ab (a7 mo n (List.getD t.parts (Int.toNat (0:Int)) (dfl (Ty.st SN.term))) p st)).v) (0:Int)+(1:Int) < (↑(List.length t.parts):Int))/\Option.isSome (some t)=true/\((0:Int)<=ba t.names (Thg.text (ab (a7 mo n (List.getD t.parts (Int.toNat (0:Int)) (dfl (Ty.st SN.term))) p st)).v) (0:Int)/\ba t.names (Thg.text (ab (a7 mo n (List.getD t.parts (Int.toNat (0:Int)) (dfl (Ty.st SN.term))) p st)).v) (0:Int) < (↑(List.length t.vars):Int))/\((0:Int)<=(0:Int)/\(0:Int) < (↑(List.length (Thg.parts (ab (a7 mo n (List.getD t.parts (Int.toNat (0:Int)) (dfl (Ty.st SN.term))) p st)).v)):Int))/\(Option.isSome (some (List.getD t.parts (Int.toNat (ba t.names (Thg.text (ab (a7 mo n (List.getD t.parts (Int.toNat (0:Int)) (dfl (Ty.st SN.term))) p st)).v) (0:Int)+(1:Int))) (dfl (Ty.st SN.term))))=true/\Option.isSome (a7 mo n (List.getD t.parts (Int.toNat (ba t.names (Thg.text (ab (a7 mo n (List.getD t.parts (Int.toNat (0:Int)) (dfl (Ty.st SN.term))) p st)).v) (0:Int)+(1:Int))) (dfl (Ty.st SN.term))) {scp:=cA p.scp [] (List.getD t.vars (Int.toNat (ba t.names (Thg.text (ab (a7 mo n (List.getD t.parts (Int.toNat (0:Int)) (dfl (Ty.st SN.term))) p st)).v) (0:Int))) (dfl Ty.str)) (List.getD (Thg.parts (ab (a7 mo n (List.getD t.parts (Int.toNat (0:Int)) (dfl (Ty.st SN.term))) p st)).v) (Int.toNat (0:Int)) (dfl (Ty.st SN.thing))),self:=p.self:Plc} (ab (a7 mo n (List.getD t.parts (Int.toNat (0:Int)) (dfl (Ty.st SN.term))) p st)).st)=true)/\if (!decide ((ab (a7 mo n (List.getD t.parts (Int.toNat (ba t.names (Thg.text (ab (a7 mo n (List.getD t.parts (Int.toNat (0:Int)) (dfl (Ty.st SN.term))) p st)).v) (0:Int)+(1:Int))) (dfl (Ty.st SN.term))) {scp:=cA p.scp [] (List.getD t.vars (Int.toNat (ba t.names (Thg.text (ab (a7 mo n (List.getD t.parts (Int.toNat (0:Int)) (dfl (Ty.st SN.term))) p st)).v) (0:Int))) (dfl Ty.str)) (List.getD (Thg.parts (ab (a7 mo n (List.getD t.parts (Int.toNat (0:Int)) (dfl (Ty.st SN.term))) p st)).v) (Int.toNat (0:Int)) (dfl (Ty.st SN.thing))),self:=p.self:Plc} (ab (a7 mo n (List.getD t.parts (Int.toNat (0:Int)) (dfl (Ty.st SN.term))) p st)).st)).f.err=(0:Int)))=true then (!decide ((ab (al (a7 mo n) t p st)).f.err=(0:Int)))=true/\(ab (a7 mo n (List.getD t.parts (Int.toNat (ba t.names (Thg.text (ab (a7 mo n (List.getD t.parts (Int.toNat (0:Int)) (dfl (Ty.st SN.term))) p st)).v) (0:Int)+(1:Int))) (dfl (Ty.st SN.term))) {scp:=cA p.scp [] (List.getD t.vars (Int.toNat (ba t.names (Thg.text (ab (a7 mo n (List.getD t.parts (Int.toNat (0:Int)) (dfl (Ty.st SN.term))) p st)).v) (0:Int))) (dfl Ty.str)) (List.getD (Thg.parts (ab (a7 mo n (List.getD t.parts (Int.toNat (0:Int)) (dfl (Ty.st SN.term))) p st)).v) (Int.toNat (0:Int)) (dfl (Ty.st SN.thing))),self:=p.self:Plc} (ab (a7 mo n (List.getD t.parts (Int.toNat (0:Int)) (dfl (Ty.st SN.term))) p st)).st)).f.err=(ab (al (a7 mo n) t p st)).f.err
  /\(ab (a7 mo n (List.getD t.parts (Int.toNat (ba t.names (Thg.text (ab (a7 mo n (List.getD t.parts (Int.toNat (0:Int)) (dfl (Ty.st SN.term))) p st)).v) (0:Int)+(1:Int))) (dfl (Ty.st SN.term))) {scp:=cA p.scp [] (List.getD t.vars (Int.toNat (ba t.names (Thg.text (ab (a7 mo n (List.getD t.parts (Int.toNat (0:Int)) (dfl (Ty.st SN.term))) p st)).v) (0:Int))) (dfl Ty.str)) (List.getD (Thg.parts (ab (a7 mo n (List.getD t.parts (Int.toNat (0:Int)) (dfl (Ty.st SN.term))) p st)).v) (Int.toNat (0:Int)) (dfl (Ty.st SN.thing))),self:=p.self:Plc} (ab (a7 mo n (List.getD t.parts (Int.toNat (0:Int)) (dfl (Ty.st SN.term))) p st)).st)).f.pos=(ab (al (a7 mo n) t p st)).f.pos/\(ab (a7 mo n (List.getD t.parts (Int.toNat (ba t.names (Thg.text (ab (a7 mo n (List.getD t.parts (Int.toNat (0:Int)) (dfl (Ty.st SN.term))) p st)).v) (0:Int)+(1:Int))) (dfl (Ty.st SN.term))) {scp:=cA p.scp [] (List.getD t.vars (Int.toNat (ba t.names (Thg.text (ab (a7 mo n (List.getD t.parts (Int.toNat (0:Int)) (dfl (Ty.st SN.term))) p st)).v) (0:Int))) (dfl Ty.str)) (List.getD (Thg.parts (ab (a7 mo n (List.getD t.parts (Int.toNat (0:Int)) (dfl (Ty.st SN.term))) p st)).v) (Int.toNat (0:Int)) (dfl (Ty.st SN.thing))),self:=p.self:Plc} (ab (a7 mo n (List.getD t.parts (Int.toNat (0:Int)) (dfl (Ty.st SN.term))) p st)).st)).st=(ab (al (a7 mo n) t p st)).st/\mo=mo/\True else (!decide ((ab (al (a7 mo n) t p st)).f.err=(0:Int)))=false/\(ab (a7 mo n (List.getD t.parts (Int.toNat (ba t.names (Thg.text (ab (a7 mo n (List.getD t.parts (Int.toNat (0:Int)) (dfl (Ty.st SN.term))) p st)).v) (0:Int)+(1:Int))) (dfl (Ty.st SN.term))) {scp:=cA p.scp [] (List.getD t.vars (Int.toNat (ba t.names (Thg.text (ab (a7 mo n (List.getD t.parts (Int.toNat (0:Int)) (dfl (Ty.st SN.term))) p st)).v) (0:Int))) (dfl Ty.str)) (List.getD (Thg.parts (ab (a7 mo n (List.getD t.parts (Int.toNat (0:Int)) (dfl (Ty.st SN.term))) p st)).v) (Int.toNat (0:Int)) (dfl (Ty.st SN.thing))),self:=p.self:Plc} (ab (a7 mo n (List.getD t.parts (Int.toNat (0:Int)) (dfl (Ty.st SN.term))) p st)).st)).v=(ab (al (a7 mo n) t p st)).v/\(ab (a7 mo n (List.getD t.parts (Int.toNat (ba t.names (Thg.text (ab (a7 mo n (List.getD t.parts (Int.toNat (0:Int)) (dfl (Ty.st SN.term))) p st)).v) (0:Int)+(1:Int))) (dfl (Ty.st SN.term))) {scp:=cA p.scp [] (List.getD t.vars (Int.toNat (ba t.names (Thg.text (ab (a7 mo n (List.getD t.parts (Int.toNat (0:Int)) (dfl (Ty.st SN.term))) p st)).v) (0:Int))) (dfl Ty.str)) (List.getD (Thg.parts (ab (a7 mo n (List.getD t.parts (Int.toNat (0:Int)) (dfl (Ty.st SN.term))) p st)).v) (Int.toNat (0:Int)) (dfl (Ty.st SN.thing))),self:=p.self:Plc} (ab (a7 mo n (List.getD t.parts (Int.toNat (0:Int)) (dfl (Ty.st SN.term))) p st)).st)).st=(ab (al (a7 mo n) t p st)).st/\mo=mo/\True else if (!decide (Thg.kind (ab (a7 mo n (List.getD t.parts (Int.toNat (0:Int)) (dfl (Ty.st SN.term))) p st)).v=(7:Int)))=true then Option.isSome (some t)=true/\(!decide ((ab (al (a7 mo n) t p st)).f.err=(0:Int)))=true/\(291:Int)=(ab (al (a7 mo n) t p st)).f.err/\t.pos=(ab (al (a7 mo n) t p st)).f.pos/\(ab (a7 mo n (List.getD t.parts (Int.toNat (0:Int)) (dfl (Ty.st SN.term))) p st)).st=(ab (al (a7 mo n) t p st)).st/\mo=mo/\True else if (!decide (Thg.pkg (ab (a7 mo n (List.getD t.parts (Int.toNat (0:Int)) (dfl (Ty.st SN.term))) p st)).v=p.self))=true then Option.isSome (some t)=true/\(!decide ((ab (al (a7 mo n) t p st)).f.err=(0:Int)))=true/\(291:Int)=(ab (al (a7 mo n) t p st)).f.err/\t.pos=(ab (al (a7 mo n) t p st)).f.pos
  /\(ab (a7 mo n (List.getD t.parts (Int.toNat (0:Int)) (dfl (Ty.st SN.term))) p st)).st=(ab (al (a7 mo n) t p st)).st/\mo=mo/\True else Option.isSome (some t)=true/\if (!decide (Thg.text (ab (a7 mo n (List.getD t.parts (Int.toNat (0:Int)) (dfl (Ty.st SN.term))) p st)).v=t.name))=true then Option.isSome (some t)=true/\(!decide ((ab (al (a7 mo n) t p st)).f.err=(0:Int)))=true/\(291:Int)=(ab (al (a7 mo n) t p st)).f.err/\t.pos=(ab (al (a7 mo n) t p st)).f.pos/\(ab (a7 mo n (List.getD t.parts (Int.toNat (0:Int)) (dfl (Ty.st SN.term))) p st)).st=(ab (al (a7 mo n) t p st)).st/\mo=mo/\True else ((0:Int)<=(0:Int)/\(0:Int) < (↑(List.length (Thg.parts (ab (a7 mo n (List.getD t.parts (Int.toNat (0:Int)) (dfl (Ty.st SN.term))) p st)).v)):Int))/\(!decide ((ab (al (a7 mo n) t p st)).f.err=(0:Int)))=false/\List.getD (Thg.parts (ab (a7 mo n (List.getD t.parts (Int.toNat (0:Int)) (dfl (Ty.st SN.term))) p st)).v) (Int.toNat (0:Int)) (dfl (Ty.st SN.thing))=(ab (al (a7 mo n) t p st)).v/\(ab (a7 mo n (List.getD t.parts (Int.toNat (0:Int)) (dfl (Ty.st SN.term))) p st)).st=(ab (al (a7 mo n) t p st)).st/\mo=mo/\True:=by
 have lp:=(Wf.term_parts ht).len
 obtain ⟨e,he⟩:=Option.isSome_iff_exists.1 ho
 simp only [he,bY]
 unfold al iL at he
 split at he
 ·cases he
 rename_i hl
 obtain ⟨x,hx⟩:=dB (r:=a7 mo n (kZ t 0) p st) (fun q=>by rw [q] at he;cases he)
 rw [hx] at he
 simp only [C0] at he
 have hx':a7 mo n (List.getD t.parts (Int.toNat (0:Int)) (dfl (Ty.st SN.term))) p st=some x:=hx
 simp only [hx',bY]
 refine ⟨rfl,⟨by omega,by omega⟩,⟨rfl,rfl⟩,a8 (fun hc=>?_) (fun hc=>?_)⟩
 ·rw [if_neg (ej hc)] at he
  cases he
  exact ⟨hc,(by repeat' (first | exact trivial | rfl | apply And.intro))⟩
 rw [if_pos (eK hc)] at he
 unfold CG at he
 refine ⟨rfl,a8 (fun hk=>?_) (fun hk=>?_)⟩
 ·rw [if_pos (Xo hk)] at he
  unfold Aj at he
  refine ⟨rfl,a8 (fun h1=>?_) (fun h1=>?_)⟩
  ·rw [if_neg (fun q=>ej h1 q.1)] at he
   cases dm he
   exact (by repeat' (first | exact trivial | rfl | apply And.intro))
  refine a8 (fun h2=>?_) (fun h2=>?_)
  ·have h2:=Xo h2
   rw [if_neg (fun q=>by have:=q.2;omega)] at he
   cases dm he
   exact (by repeat' (first | exact trivial | rfl | apply And.intro))
  have h2:¬ba x.v.names t.name 0 < 0:=fun q=>h2 (Xd q)
  rw [if_pos ⟨eK h1,by omega⟩] at he
  split at he
  ·cases he
  cases cW he
  exact ⟨⟨by omega,by omega⟩,(by repeat' (first | exact trivial | rfl | apply And.intro))⟩
 rw [if_neg (fun q=>hk (Xd q))] at he
 refine a8 (fun hk=>?_) (fun hk=>?_)
 ·rw [if_pos (Xo hk)] at he
  unfold ifE at he
  refine a8 (fun h1=>?_) (fun h1=>?_)
  ·rw [if_neg (ej h1)] at he
   cases dm he
   exact (by repeat' (first | exact trivial | rfl | apply And.intro))
  rw [if_pos (eK h1)] at he
  split at he
  case isFalse=>cases he
  rename_i h2
  unfold iL at he
  split at he
  ·cases he
  have he':a7 mo n (List.getD t.parts (Int.toNat (2 - x.v.n)) (dfl (Ty.st SN.term))) p x.st=some e:=he
  simp only [he',bY]
  exact ⟨rfl,bM (by omega) (by omega),⟨by omega,by omega⟩,⟨rfl,rfl⟩,a8 (fun q=>⟨q,(by repeat' (first | exact trivial | rfl | apply And.intro))⟩) (fun q=>⟨by simpa using q,(by repeat' (first | exact trivial | rfl | apply And.intro))⟩)⟩
 rw [if_neg (fun q=>hk (Xd q))] at he
 refine a8 (fun hk=>?_) (fun hk=>?_)
 ·rw [if_pos (Xo hk)] at he
  unfold Al at he
  refine ⟨rfl,a8 (fun h1=>?_) (fun h1=>?_)⟩
  ·rw [if_neg (fun q=>ej h1 q.1)] at he
   cases dm he
   exact (by repeat' (first | exact trivial | rfl | apply And.intro))
  refine a8 (fun h2=>?_) (fun h2=>?_)
  ·have h2:=Xo h2
   rw [if_neg (fun q=>by have:=q.2;omega)] at he
   cases dm he
   exact (by repeat' (first | exact trivial | rfl | apply And.intro))
  have h2:¬ba t.names x.v.text 0 < 0:=fun q=>h2 (Xd q)
  rw [if_pos ⟨eK h1,by omega⟩] at he
  unfold Ak at he
  split at he
  ·cases he
  rename_i h3
  unfold iL at he
  split at he
  ·cases he
  have e2:Int.toNat (ba t.names x.v.text 0+1)=(ba t.names x.v.text 0).toNat+1:=by omega
  have he':a7 mo n (List.getD t.parts ((ba t.names x.v.text 0).toNat+1) (dfl (Ty.st SN.term))) ⟨cA p.scp [] (List.getD t.vars (ba t.names x.v.text 0).toNat (dfl Ty.str)) (List.getD x.v.parts (Int.toNat (0:Int)) (dfl (Ty.st SN.thing))),p.self⟩ x.st=some e:=he
  simp only [e2,he',bY]
  exact ⟨rfl,bM (by omega) (by omega),⟨by omega,by omega⟩,rfl,⟨by omega,by omega⟩,⟨by omega,by omega⟩,⟨rfl,rfl⟩,a8 (fun q=>⟨q,(by repeat' (first | exact trivial | rfl | apply And.intro))⟩) (fun q=>⟨by simpa using q,(by repeat' (first | exact trivial | rfl | apply And.intro))⟩)⟩
 rw [if_neg (fun q=>hk (Xd q))] at he
 unfold rawE at he
 refine a8 (fun h1=>?_) (fun h1=>?_)
 ·rw [if_neg (fun q=>ej h1 q.1)] at he
  cases dm he
  exact (by repeat' (first | exact trivial | rfl | apply And.intro))
 refine a8 (fun h2=>?_) (fun h2=>?_)
 ·rw [if_neg (fun q=>ej h2 q.2.1)] at he
  cases dm he
  exact (by repeat' (first | exact trivial | rfl | apply And.intro))
 refine ⟨rfl,a8 (fun h3=>?_) (fun h3=>?_)⟩
 ·rw [if_neg (fun q=>ej h3 q.2.2)] at he
  cases dm he
  exact (by repeat' (first | exact trivial | rfl | apply And.intro))
 rw [if_pos ⟨eK h1,eK h2,eK h3⟩] at he
 split at he
 ·cases he
 cases cW he
 exact ⟨⟨by omega,by omega⟩,(by repeat' (first | exact trivial | rfl | apply And.intro))⟩
theorem AR (n:Nat) (t:Trm) (p:Plc) (st mo:Int) (ht:Wf (.st .term) t) (hp:Wf (.st .plc) p) (ho:(a7 mo (n+1) t p st).isSome=true) :
  Option.isSome (some t)=true/\if decide (t.kind=(1:Int))=true then Option.isSome (some t)=true/\(!decide ((ab (a7 mo (n+(1:Nat)) t p st)).f.err=(0:Int)))=false/\(1:Int)=Thg.kind (ab (a7 mo (n+(1:Nat)) t p st)).v/\t.n=Thg.n (ab (a7 mo (n+(1:Nat)) t p st)).v/\[]=Thg.pkg (ab (a7 mo (n+(1:Nat)) t p st)).v/\[]=Thg.text (ab (a7 mo (n+(1:Nat)) t p st)).v/\Thg.names (ab (a7 mo (n+(1:Nat)) t p st)).v=[]/\Thg.parts (ab (a7 mo (n+(1:Nat)) t p st)).v=[]/\Thg.fn (ab (a7 mo (n+(1:Nat)) t p st)).v=none/\st=(ab (a7 mo (n+(1:Nat)) t p st)).st/\mo=mo/\True else if decide (t.kind=(2:Int))=true then Option.isSome (some t)=true/\(!decide ((ab (a7 mo (n+(1:Nat)) t p st)).f.err=(0:Int)))=false/\(2:Int)=Thg.kind (ab (a7 mo (n+(1:Nat)) t p st)).v/\(0:Int)=Thg.n (ab (a7 mo (n+(1:Nat)) t p st)).v/\[]=Thg.pkg (ab (a7 mo (n+(1:Nat)) t p st)).v/\t.name=Thg.text (ab (a7 mo (n+(1:Nat)) t p st)).v/\Thg.names (ab (a7 mo (n+(1:Nat)) t p st)).v=[]/\Thg.parts (ab (a7 mo (n+(1:Nat)) t p st)).v=[]/\Thg.fn (ab (a7 mo (n+(1:Nat)) t p st)).v=none/\st=(ab (a7 mo (n+(1:Nat)) t p st)).st/\mo=mo/\True else if decide (t.kind=(3:Int))=true then Option.isSome (some t)=true/\(!decide ((ab (a7 mo (n+(1:Nat)) t p st)).f.err=(0:Int)))=false/\ku (decide (t.kind=(3:Int)))=(ab (a7 mo (n+(1:Nat)) t p st)).v/\st=(ab (a7 mo (n+(1:Nat)) t p st)).st/\mo=mo/\True else if decide (t.kind=(4:Int))=true then Option.isSome (some t)=true/\(!decide ((ab (a7 mo (n+(1:Nat)) t p st)).f.err=(0:Int)))=false/\ku (decide (t.kind=(3:Int)))=(ab (a7 mo (n+(1:Nat)) t p st)).v/\st=(ab (a7 mo (n+(1:Nat)) t p st)).st/\mo=mo/\True else if decide (t.kind=(5:Int))=true then Option.isSome (some t)=true/\Option.isSome (some t)=true/\if Option.isNone (findF p.scp t.pkg t.name)=true then Option.isSome (some t)=true/\(!decide ((ab (a7 mo (n+(1:Nat)) t p st)).f.err=(0:Int)))=true/\(110:Int)=(ab (a7 mo (n+(1:Nat)) t p st)).f.err/\t.pos=(ab (a7 mo (n+(1:Nat)) t p st)).f.pos/\st=(ab (a7 mo (n+(1:Nat)) t p st)).st/\mo=mo/\True else Option.isSome (findF p.scp t.pkg t.name)=true/\(!decide ((ab (a7 mo (n+(1:Nat)) t p st)).f.err=(0:Int)))=false/\Scp.what (Option.getD (findF p.scp t.pkg t.name) (dfl (Ty.st SN.scope)))=(ab (a7 mo (n+(1:Nat)) t p st)).v/\st=(ab (a7 mo (n+(1:Nat)) t p st)).st/\mo=mo/\True else if decide (t.kind=(6:Int))=true then Option.isSome (some t)=true/\Option.isSome (some t)=true/\((0:Int)<=(0:Int)/\(0:Int) < (↑(List.length t.parts):Int))/\Option.isSome (some t)=true/\(!decide ((ab (a7 mo (n+(1:Nat)) t p st)).f.err=(0:Int)))=false/\(8:Int)=Thg.kind (ab (a7 mo (n+(1:Nat)) t p st)).v/\(0:Int)=Thg.n (ab (a7 mo (n+(1:Nat)) t p st)).v/\[]=Thg.pkg (ab (a7 mo (n+(1:Nat)) t p st)).v/\[]=Thg.text (ab (a7 mo (n+(1:Nat)) t p st)).v/\Thg.names (ab (a7 mo (n+(1:Nat)) t p st)).v=[]/\Thg.parts (ab (a7 mo (n+(1:Nat)) t p st)).v=[]/\some (Fnc.mk p.scp p.self t.names (some (List.getD t.parts (Int.toNat (0:Int)) (dfl (Ty.st SN.term)))) [] (↑(List.length t.names):Int))=Thg.fn (ab (a7 mo (n+(1:Nat)) t p st)).v/\st=(ab (a7 mo (n+(1:Nat)) t p st)).st/\mo=mo/\True else if decide (t.kind=(7:Int))=true then Option.isSome (some t)=true/\Option.isSome (an (fun (x:Trm) ↦a7 mo n x p) t.parts st)=true/\if (!decide ((bW (an (fun (x:Trm) ↦a7 mo n x p) t.parts st)).f.err=(0:Int)))=true then (!decide ((ab (a7 mo (n+(1:Nat)) t p st)).f.err=(0:Int)))=true
  /\(bW (an (fun (x:Trm) ↦a7 mo n x p) t.parts st)).f.err=(ab (a7 mo (n+(1:Nat)) t p st)).f.err/\(bW (an (fun (x:Trm) ↦a7 mo n x p) t.parts st)).f.pos=(ab (a7 mo (n+(1:Nat)) t p st)).f.pos/\(bW (an (fun (x:Trm) ↦a7 mo n x p) t.parts st)).st=(ab (a7 mo (n+(1:Nat)) t p st)).st/\mo=mo/\True else Option.isSome (bw (a7 mo n) mo t.pos (bW (an (fun (x:Trm) ↦a7 mo n x p) t.parts st)).vs (bW (an (fun (x:Trm) ↦a7 mo n x p) t.parts st)).st)=true/\if (!decide ((ab (bw (a7 mo n) mo t.pos (bW (an (fun (x:Trm) ↦a7 mo n x p) t.parts st)).vs (bW (an (fun (x:Trm) ↦a7 mo n x p) t.parts st)).st)).f.err=(0:Int)))=true then (!decide ((ab (a7 mo (n+(1:Nat)) t p st)).f.err=(0:Int)))=true/\(ab (bw (a7 mo n) mo t.pos (bW (an (fun (x:Trm) ↦a7 mo n x p) t.parts st)).vs (bW (an (fun (x:Trm) ↦a7 mo n x p) t.parts st)).st)).f.err=(ab (a7 mo (n+(1:Nat)) t p st)).f.err/\(ab (bw (a7 mo n) mo t.pos (bW (an (fun (x:Trm) ↦a7 mo n x p) t.parts st)).vs (bW (an (fun (x:Trm) ↦a7 mo n x p) t.parts st)).st)).f.pos=(ab (a7 mo (n+(1:Nat)) t p st)).f.pos/\(ab (bw (a7 mo n) mo t.pos (bW (an (fun (x:Trm) ↦a7 mo n x p) t.parts st)).vs (bW (an (fun (x:Trm) ↦a7 mo n x p) t.parts st)).st)).st=(ab (a7 mo (n+(1:Nat)) t p st)).st/\mo=mo/\True else (!decide ((ab (a7 mo (n+(1:Nat)) t p st)).f.err=(0:Int)))=false/\(ab (bw (a7 mo n) mo t.pos (bW (an (fun (x:Trm) ↦a7 mo n x p) t.parts st)).vs (bW (an (fun (x:Trm) ↦a7 mo n x p) t.parts st)).st)).v=(ab (a7 mo (n+(1:Nat)) t p st)).v/\(ab (bw (a7 mo n) mo t.pos (bW (an (fun (x:Trm) ↦a7 mo n x p) t.parts st)).vs (bW (an (fun (x:Trm) ↦a7 mo n x p) t.parts st)).st)).st=(ab (a7 mo (n+(1:Nat)) t p st)).st/\mo=mo/\True else if decide (t.kind=(8:Int))=true then Option.isSome (some t)=true/\Option.isSome (some t)=true/\Option.isSome (an (fun (x:Trm) ↦a7 mo n x p) t.parts st)=true/\if (!decide ((bW (an (fun (x:Trm) ↦a7 mo n x p) t.parts st)).f.err=(0:Int)))=true then (!decide ((ab (a7 mo (n+(1:Nat)) t p st)).f.err=(0:Int)))=true/\(bW (an (fun (x:Trm) ↦a7 mo n x p) t.parts st)).f.err=(ab (a7 mo (n+(1:Nat)) t p st)).f.err/\(bW (an (fun (x:Trm) ↦a7 mo n x p) t.parts st)).f.pos=(ab (a7 mo (n+(1:Nat)) t p st)).f.pos/\(bW (an (fun (x:Trm) ↦a7 mo n x p) t.parts st)).st=(ab (a7 mo (n+(1:Nat)) t p st)).st/\mo=mo/\True else (!decide ((ab (a7 mo (n+(1:Nat)) t p st)).f.err=(0:Int)))=false/\(5:Int)=Thg.kind (ab (a7 mo (n+(1:Nat)) t p st)).v/\(0:Int)=Thg.n (ab (a7 mo (n+(1:Nat)) t p st)).v/\[]=Thg.pkg (ab (a7 mo (n+(1:Nat)) t p st)).v/\[]=Thg.text (ab (a7 mo (n+(1:Nat)) t p st)).v/\t.names=Thg.names (ab (a7 mo (n+(1:Nat)) t p st)).v/\(bW (an (fun (x:Trm) ↦a7 mo n x p) t.parts st)).vs=Thg.parts (ab (a7 mo (n+(1:Nat)) t p st)).v/\Thg.fn (ab (a7 mo (n+(1:Nat)) t p st)).v=none/\(bW (an (fun (x:Trm) ↦a7 mo n x p) t.parts st)).st=(ab (a7 mo (n+(1:Nat)) t p st)).st/\mo=mo/\True else if decide (t.kind=(10:Int))=true then Option.isSome (some t)=true/\Option.isSome (some t)=true/\Option.isSome (an (fun (x:Trm) ↦a7 mo n x p) t.parts st)=true/\if (!decide ((bW (an (fun (x:Trm) ↦a7 mo n x p) t.parts st)).f.err=(0:Int)))=true then (!decide ((ab (a7 mo (n+(1:Nat)) t p st)).f.err=(0:Int)))=true/\(bW (an (fun (x:Trm) ↦a7 mo n x p) t.parts st)).f.err=(ab (a7 mo (n+(1:Nat)) t p st)).f.err
  /\(bW (an (fun (x:Trm) ↦a7 mo n x p) t.parts st)).f.pos=(ab (a7 mo (n+(1:Nat)) t p st)).f.pos/\(bW (an (fun (x:Trm) ↦a7 mo n x p) t.parts st)).st=(ab (a7 mo (n+(1:Nat)) t p st)).st/\mo=mo/\True else (!decide ((ab (a7 mo (n+(1:Nat)) t p st)).f.err=(0:Int)))=false/\(6:Int)=Thg.kind (ab (a7 mo (n+(1:Nat)) t p st)).v/\(0:Int)=Thg.n (ab (a7 mo (n+(1:Nat)) t p st)).v/\[]=Thg.pkg (ab (a7 mo (n+(1:Nat)) t p st)).v/\t.name=Thg.text (ab (a7 mo (n+(1:Nat)) t p st)).v/\Thg.names (ab (a7 mo (n+(1:Nat)) t p st)).v=[]/\(bW (an (fun (x:Trm) ↦a7 mo n x p) t.parts st)).vs=Thg.parts (ab (a7 mo (n+(1:Nat)) t p st)).v/\Thg.fn (ab (a7 mo (n+(1:Nat)) t p st)).v=none/\(bW (an (fun (x:Trm) ↦a7 mo n x p) t.parts st)).st=(ab (a7 mo (n+(1:Nat)) t p st)).st/\mo=mo/\True else if decide (t.kind=(11:Int))=true then Option.isSome (some t)=true/\Option.isSome (an (fun (x:Trm) ↦a7 mo n x p) t.parts st)=true/\if (!decide ((bW (an (fun (x:Trm) ↦a7 mo n x p) t.parts st)).f.err=(0:Int)))=true then (!decide ((ab (a7 mo (n+(1:Nat)) t p st)).f.err=(0:Int)))=true/\(bW (an (fun (x:Trm) ↦a7 mo n x p) t.parts st)).f.err=(ab (a7 mo (n+(1:Nat)) t p st)).f.err/\(bW (an (fun (x:Trm) ↦a7 mo n x p) t.parts st)).f.pos=(ab (a7 mo (n+(1:Nat)) t p st)).f.pos/\(bW (an (fun (x:Trm) ↦a7 mo n x p) t.parts st)).st=(ab (a7 mo (n+(1:Nat)) t p st)).st/\mo=mo/\True else (!decide ((ab (a7 mo (n+(1:Nat)) t p st)).f.err=(0:Int)))=false/\(4:Int)=Thg.kind (ab (a7 mo (n+(1:Nat)) t p st)).v/\(0:Int)=Thg.n (ab (a7 mo (n+(1:Nat)) t p st)).v/\[]=Thg.pkg (ab (a7 mo (n+(1:Nat)) t p st)).v/\[]=Thg.text (ab (a7 mo (n+(1:Nat)) t p st)).v/\Thg.names (ab (a7 mo (n+(1:Nat)) t p st)).v=[]/\(bW (an (fun (x:Trm) ↦a7 mo n x p) t.parts st)).vs=Thg.parts (ab (a7 mo (n+(1:Nat)) t p st)).v/\Thg.fn (ab (a7 mo (n+(1:Nat)) t p st)).v=none/\(bW (an (fun (x:Trm) ↦a7 mo n x p) t.parts st)).st=(ab (a7 mo (n+(1:Nat)) t p st)).st/\mo=mo/\True else if decide (t.kind=(15:Int))=true then Option.isSome (some t)=true/\((0:Int)<=(0:Int)/\(0:Int) < (↑(List.length t.parts):Int))/\(Option.isSome (some (List.getD t.parts (Int.toNat (0:Int)) (dfl (Ty.st SN.term))))=true/\Option.isSome (a7 mo n (List.getD t.parts (Int.toNat (0:Int)) (dfl (Ty.st SN.term))) p st)=true)/\if (!decide ((ab (a7 mo n (List.getD t.parts (Int.toNat (0:Int)) (dfl (Ty.st SN.term))) p st)).f.err=(0:Int)))=true then (!decide ((ab (a7 mo (n+(1:Nat)) t p st)).f.err=(0:Int)))=true/\(ab (a7 mo n (List.getD t.parts (Int.toNat (0:Int)) (dfl (Ty.st SN.term))) p st)).f.err=(ab (a7 mo (n+(1:Nat)) t p st)).f.err/\(ab (a7 mo n (List.getD t.parts (Int.toNat (0:Int)) (dfl (Ty.st SN.term))) p st)).f.pos=(ab (a7 mo (n+(1:Nat)) t p st)).f.pos/\(ab (a7 mo n (List.getD t.parts (Int.toNat (0:Int)) (dfl (Ty.st SN.term))) p st)).st=(ab (a7 mo (n+(1:Nat)) t p st)).st/\mo=mo/\True else (!decide ((ab (a7 mo (n+(1:Nat)) t p st)).f.err=(0:Int)))=false/\(ab (a7 mo n (List.getD t.parts (Int.toNat (0:Int)) (dfl (Ty.st SN.term))) p st)).v=(ab (a7 mo (n+(1:Nat)) t p st)).v/\(ab (a7 mo n (List.getD t.parts (Int.toNat (0:Int)) (dfl (Ty.st SN.term))) p st)).st=(ab (a7 mo (n+(1:Nat)) t p st)).st/\mo=mo/\True else if decide (t.kind=(16:Int))=true then Option.isSome (some t)=true/\Option.isSome (some t)=true/\Option.isSome (an (fun (x:Trm) ↦a7 mo n x p) t.parts st)=true
  /\if (!decide ((bW (an (fun (x:Trm) ↦a7 mo n x p) t.parts st)).f.err=(0:Int)))=true then (!decide ((ab (a7 mo (n+(1:Nat)) t p st)).f.err=(0:Int)))=true/\(bW (an (fun (x:Trm) ↦a7 mo n x p) t.parts st)).f.err=(ab (a7 mo (n+(1:Nat)) t p st)).f.err/\(bW (an (fun (x:Trm) ↦a7 mo n x p) t.parts st)).f.pos=(ab (a7 mo (n+(1:Nat)) t p st)).f.pos/\(bW (an (fun (x:Trm) ↦a7 mo n x p) t.parts st)).st=(ab (a7 mo (n+(1:Nat)) t p st)).st/\mo=mo/\True else (!decide ((ab (a7 mo (n+(1:Nat)) t p st)).f.err=(0:Int)))=false/\(7:Int)=Thg.kind (ab (a7 mo (n+(1:Nat)) t p st)).v/\(0:Int)=Thg.n (ab (a7 mo (n+(1:Nat)) t p st)).v/\p.self=Thg.pkg (ab (a7 mo (n+(1:Nat)) t p st)).v/\t.name=Thg.text (ab (a7 mo (n+(1:Nat)) t p st)).v/\Thg.names (ab (a7 mo (n+(1:Nat)) t p st)).v=[]/\(bW (an (fun (x:Trm) ↦a7 mo n x p) t.parts st)).vs=Thg.parts (ab (a7 mo (n+(1:Nat)) t p st)).v/\Thg.fn (ab (a7 mo (n+(1:Nat)) t p st)).v=none/\(bW (an (fun (x:Trm) ↦a7 mo n x p) t.parts st)).st=(ab (a7 mo (n+(1:Nat)) t p st)).st/\mo=mo/\True else if decide (t.kind=(14:Int))=true then Option.isSome (some t)=true/\((0:Int)<=(0:Int)/\(0:Int) < (↑(List.length t.parts):Int))/\(Option.isSome (some (List.getD t.parts (Int.toNat (0:Int)) (dfl (Ty.st SN.term))))=true/\Option.isSome (a7 mo n (List.getD t.parts (Int.toNat (0:Int)) (dfl (Ty.st SN.term))) p st)=true)/\if (!decide ((ab (a7 mo n (List.getD t.parts (Int.toNat (0:Int)) (dfl (Ty.st SN.term))) p st)).f.err=(0:Int)))=true then (!decide ((ab (a7 mo (n+(1:Nat)) t p st)).f.err=(0:Int)))=true/\(ab (a7 mo n (List.getD t.parts (Int.toNat (0:Int)) (dfl (Ty.st SN.term))) p st)).f.err=(ab (a7 mo (n+(1:Nat)) t p st)).f.err/\(ab (a7 mo n (List.getD t.parts (Int.toNat (0:Int)) (dfl (Ty.st SN.term))) p st)).f.pos=(ab (a7 mo (n+(1:Nat)) t p st)).f.pos/\(ab (a7 mo n (List.getD t.parts (Int.toNat (0:Int)) (dfl (Ty.st SN.term))) p st)).st=(ab (a7 mo (n+(1:Nat)) t p st)).st/\mo=mo/\True else Option.isSome (some t)=true/\((0:Int)<=(1:Int)/\(1:Int) < (↑(List.length t.parts):Int))/\Option.isSome (some t)=true/\(Option.isSome (some (List.getD t.parts (Int.toNat (1:Int)) (dfl (Ty.st SN.term))))=true/\Option.isSome (a7 mo n (List.getD t.parts (Int.toNat (1:Int)) (dfl (Ty.st SN.term))) {scp:=cA p.scp [] t.name (ab (a7 mo n (List.getD t.parts (Int.toNat (0:Int)) (dfl (Ty.st SN.term))) p st)).v,self:=p.self:Plc} (ab (a7 mo n (List.getD t.parts (Int.toNat (0:Int)) (dfl (Ty.st SN.term))) p st)).st)=true)/\if (!decide ((ab (a7 mo n (List.getD t.parts (Int.toNat (1:Int)) (dfl (Ty.st SN.term))) {scp:=cA p.scp [] t.name (ab (a7 mo n (List.getD t.parts (Int.toNat (0:Int)) (dfl (Ty.st SN.term))) p st)).v,self:=p.self:Plc} (ab (a7 mo n (List.getD t.parts (Int.toNat (0:Int)) (dfl (Ty.st SN.term))) p st)).st)).f.err=(0:Int)))=true then (!decide ((ab (a7 mo (n+(1:Nat)) t p st)).f.err=(0:Int)))=true/\(ab (a7 mo n (List.getD t.parts (Int.toNat (1:Int)) (dfl (Ty.st SN.term))) {scp:=cA p.scp [] t.name (ab (a7 mo n (List.getD t.parts (Int.toNat (0:Int)) (dfl (Ty.st SN.term))) p st)).v,self:=p.self:Plc} (ab (a7 mo n (List.getD t.parts (Int.toNat (0:Int)) (dfl (Ty.st SN.term))) p st)).st)).f.err=(ab (a7 mo (n+(1:Nat)) t p st)).f.err
  /\(ab (a7 mo n (List.getD t.parts (Int.toNat (1:Int)) (dfl (Ty.st SN.term))) {scp:=cA p.scp [] t.name (ab (a7 mo n (List.getD t.parts (Int.toNat (0:Int)) (dfl (Ty.st SN.term))) p st)).v,self:=p.self:Plc} (ab (a7 mo n (List.getD t.parts (Int.toNat (0:Int)) (dfl (Ty.st SN.term))) p st)).st)).f.pos=(ab (a7 mo (n+(1:Nat)) t p st)).f.pos/\(ab (a7 mo n (List.getD t.parts (Int.toNat (1:Int)) (dfl (Ty.st SN.term))) {scp:=cA p.scp [] t.name (ab (a7 mo n (List.getD t.parts (Int.toNat (0:Int)) (dfl (Ty.st SN.term))) p st)).v,self:=p.self:Plc} (ab (a7 mo n (List.getD t.parts (Int.toNat (0:Int)) (dfl (Ty.st SN.term))) p st)).st)).st=(ab (a7 mo (n+(1:Nat)) t p st)).st/\mo=mo/\True else (!decide ((ab (a7 mo (n+(1:Nat)) t p st)).f.err=(0:Int)))=false/\(ab (a7 mo n (List.getD t.parts (Int.toNat (1:Int)) (dfl (Ty.st SN.term))) {scp:=cA p.scp [] t.name (ab (a7 mo n (List.getD t.parts (Int.toNat (0:Int)) (dfl (Ty.st SN.term))) p st)).v,self:=p.self:Plc} (ab (a7 mo n (List.getD t.parts (Int.toNat (0:Int)) (dfl (Ty.st SN.term))) p st)).st)).v=(ab (a7 mo (n+(1:Nat)) t p st)).v/\(ab (a7 mo n (List.getD t.parts (Int.toNat (1:Int)) (dfl (Ty.st SN.term))) {scp:=cA p.scp [] t.name (ab (a7 mo n (List.getD t.parts (Int.toNat (0:Int)) (dfl (Ty.st SN.term))) p st)).v,self:=p.self:Plc} (ab (a7 mo n (List.getD t.parts (Int.toNat (0:Int)) (dfl (Ty.st SN.term))) p st)).st)).st=(ab (a7 mo (n+(1:Nat)) t p st)).st/\mo=mo/\True else (Option.isSome (some t)=true/\Option.isSome (al (a7 mo n) t p st)=true)/\if (!decide ((ab (al (a7 mo n) t p st)).f.err=(0:Int)))=true then (!decide ((ab (a7 mo (n+(1:Nat)) t p st)).f.err=(0:Int)))=true/\(ab (al (a7 mo n) t p st)).f.err=(ab (a7 mo (n+(1:Nat)) t p st)).f.err/\(ab (al (a7 mo n) t p st)).f.pos=(ab (a7 mo (n+(1:Nat)) t p st)).f.pos/\(ab (al (a7 mo n) t p st)).st=(ab (a7 mo (n+(1:Nat)) t p st)).st/\mo=mo/\True else (!decide ((ab (a7 mo (n+(1:Nat)) t p st)).f.err=(0:Int)))=false/\(ab (al (a7 mo n) t p st)).v=(ab (a7 mo (n+(1:Nat)) t p st)).v/\(ab (al (a7 mo n) t p st)).st=(ab (a7 mo (n+(1:Nat)) t p st)).st/\mo=mo/\True:=by
 have lp:=(Wf.term_parts ht).len
 obtain ⟨e,he⟩:=Option.isSome_iff_exists.1 ho
 simp only [he,bY]
 simp only [a7] at he
 split at he
 case isFalse=>cases he
 unfold xg at he
 refine ⟨rfl,?_⟩
 refine a8 (fun hk=>?_) (fun hk=>?_)
 ·rw [if_pos (Xo hk)] at he
  cases cW he
  exact (by repeat' (first | exact trivial | rfl | apply And.intro))
 rw [if_neg (fun q=>hk (Xd q))] at he
 refine a8 (fun hk=>?_) (fun hk=>?_)
 ·rw [if_pos (Xo hk)] at he
  cases cW he
  exact (by repeat' (first | exact trivial | rfl | apply And.intro))
 rw [if_neg (fun q=>hk (Xd q))] at he
 have h34:t.kind=3∨t.kind=4→okE (ku (decide (t.kind=3))) st=some e:=fun q=>by rw [if_pos q] at he;exact he
 refine a8 (fun hk=>?_) (fun hk=>?_)
 ·cases cW (h34 (.inl (Xo hk)))
  exact (by repeat' (first | exact trivial | rfl | apply And.intro))
 refine a8 (fun hk'=>?_) (fun hk'=>?_)
 ·cases cW (h34 (.inr (Xo hk')))
  exact (by repeat' (first | exact trivial | rfl | apply And.intro))
 rw [if_neg (fun q=>q.elim (fun q=>hk (Xd q)) (fun q=>hk' (Xd q)))] at he
 clear h34 hk hk'
 refine a8 (fun hk=>?_) (fun hk=>?_)
 ·rw [if_pos (Xo hk)] at he
  unfold varE Da at he
  refine ⟨rfl,rfl,a8 (fun h=>?_) (fun h=>?_)⟩
  ·rw [if_neg (by cases q:findF p.scp t.pkg t.name <;> simp_all)] at he
   cases dm he
   exact (by repeat' (first | exact trivial | rfl | apply And.intro))
  ·have h:(findF p.scp t.pkg t.name).isSome=true:=by cases q:findF p.scp t.pkg t.name <;> simp_all
   rw [if_pos h] at he
   cases cW he
   exact ⟨h,(by repeat' (first | exact trivial | rfl | apply And.intro))⟩
 rw [if_neg (fun q=>hk (Xd q))] at he
 refine a8 (fun hk=>?_) (fun hk=>?_)
 ·rw [if_pos (Xo hk)] at he
  unfold funE iL at he
  split at he
  ·cases he
  cases cW he
  exact ⟨rfl,rfl,⟨by omega,by omega⟩,(by repeat' (first | exact trivial | rfl | apply And.intro))⟩
 rw [if_neg (fun q=>hk (Xd q))] at he
 refine a8 (fun hk=>?_) (fun hk=>?_)
 ·rw [if_pos (Xo hk)] at he
  obtain ⟨y,hy⟩:=dB (r:=an (fun x=>a7 mo n x p) t.parts st) (fun q=>by rw [q] at he;cases he)
  rw [hy] at he
  simp only [kY] at he
  simp only [hy,gT]
  refine ⟨rfl,rfl,a8 (fun hc=>?_) (fun hc=>?_)⟩
  ·rw [if_neg (ej hc)] at he
   cases he
   exact ⟨hc,(by repeat' (first | exact trivial | rfl | apply And.intro))⟩
  rw [if_pos (eK hc)] at he
  simp only [he,bY]
  exact ⟨rfl,a8 (fun q=>⟨q,(by repeat' (first | exact trivial | rfl | apply And.intro))⟩) (fun q=>⟨by simpa using q,(by repeat' (first | exact trivial | rfl | apply And.intro))⟩)⟩
 rw [if_neg (fun q=>hk (Xd q))] at he
 refine a8 (fun hk=>?_) (fun hk=>?_)
 ·rw [if_pos (Xo hk)] at he
  obtain ⟨y,hy⟩:=dB (r:=an (fun x=>a7 mo n x p) t.parts st) (fun q=>by rw [q] at he;cases he)
  rw [hy] at he
  simp only [kY] at he
  simp only [hy,gT]
  refine ⟨rfl,rfl,rfl,a8 (fun hc=>?_) (fun hc=>?_)⟩
  ·rw [if_neg (ej hc)] at he
   cases he
   exact ⟨hc,(by repeat' (first | exact trivial | rfl | apply And.intro))⟩
  rw [if_pos (eK hc)] at he
  cases cW he
  exact (by repeat' (first | exact trivial | rfl | apply And.intro))
 rw [if_neg (fun q=>hk (Xd q))] at he
 refine a8 (fun hk=>?_) (fun hk=>?_)
 ·rw [if_pos (Xo hk)] at he
  obtain ⟨y,hy⟩:=dB (r:=an (fun x=>a7 mo n x p) t.parts st) (fun q=>by rw [q] at he;cases he)
  rw [hy] at he
  simp only [kY] at he
  simp only [hy,gT]
  refine ⟨rfl,rfl,rfl,a8 (fun hc=>?_) (fun hc=>?_)⟩
  ·rw [if_neg (ej hc)] at he
   cases he
   exact ⟨hc,(by repeat' (first | exact trivial | rfl | apply And.intro))⟩
  rw [if_pos (eK hc)] at he
  cases cW he
  exact (by repeat' (first | exact trivial | rfl | apply And.intro))
 rw [if_neg (fun q=>hk (Xd q))] at he
 refine a8 (fun hk=>?_) (fun hk=>?_)
 ·rw [if_pos (Xo hk)] at he
  obtain ⟨y,hy⟩:=dB (r:=an (fun x=>a7 mo n x p) t.parts st) (fun q=>by rw [q] at he;cases he)
  rw [hy] at he
  simp only [kY] at he
  simp only [hy,gT]
  refine ⟨rfl,rfl,a8 (fun hc=>?_) (fun hc=>?_)⟩
  ·rw [if_neg (ej hc)] at he
   cases he
   exact ⟨hc,(by repeat' (first | exact trivial | rfl | apply And.intro))⟩
  rw [if_pos (eK hc)] at he
  cases cW he
  exact (by repeat' (first | exact trivial | rfl | apply And.intro))
 rw [if_neg (fun q=>hk (Xd q))] at he
 refine a8 (fun hk=>?_) (fun hk=>?_)
 ·rw [if_pos (Xo hk)] at he
  unfold CH iL at he
  split at he
  ·cases he
  have he':a7 mo n (List.getD t.parts (Int.toNat (0:Int)) (dfl (Ty.st SN.term))) p st=some e:=he
  simp only [he',bY]
  exact ⟨rfl,⟨by omega,by omega⟩,⟨rfl,rfl⟩,a8 (fun q=>⟨q,(by repeat' (first | exact trivial | rfl | apply And.intro))⟩) (fun q=>⟨by simpa using q,(by repeat' (first | exact trivial | rfl | apply And.intro))⟩)⟩
 rw [if_neg (fun q=>hk (Xd q))] at he
 refine a8 (fun hk=>?_) (fun hk=>?_)
 ·rw [if_pos (Xo hk)] at he
  obtain ⟨y,hy⟩:=dB (r:=an (fun x=>a7 mo n x p) t.parts st) (fun q=>by rw [q] at he;cases he)
  rw [hy] at he
  simp only [kY] at he
  simp only [hy,gT]
  refine ⟨rfl,rfl,rfl,a8 (fun hc=>?_) (fun hc=>?_)⟩
  ·rw [if_neg (ej hc)] at he
   cases he
   exact ⟨hc,(by repeat' (first | exact trivial | rfl | apply And.intro))⟩
  rw [if_pos (eK hc)] at he
  cases cW he
  exact (by repeat' (first | exact trivial | rfl | apply And.intro))
 rw [if_neg (fun q=>hk (Xd q))] at he
 refine a8 (fun hk=>?_) (fun hk=>?_)
 ·rw [if_pos (Xo hk)] at he
  unfold letE iL at he
  split at he
  ·cases he
  obtain ⟨x,hx⟩:=dB (r:=a7 mo n (kZ t 0) p st) (fun q=>by rw [q] at he;cases he)
  rw [hx] at he
  simp only [C0] at he
  have hx':a7 mo n (List.getD t.parts (Int.toNat (0:Int)) (dfl (Ty.st SN.term))) p st=some x:=hx
  simp only [hx',bY]
  refine ⟨rfl,⟨by omega,by omega⟩,⟨rfl,rfl⟩,a8 (fun hc=>?_) (fun hc=>?_)⟩
  ·rw [if_neg (ej hc)] at he
   cases he
   exact ⟨hc,(by repeat' (first | exact trivial | rfl | apply And.intro))⟩
  rw [if_pos (eK hc)] at he
  have he':a7 mo n (List.getD t.parts (Int.toNat (1:Int)) (dfl (Ty.st SN.term))) ⟨cA p.scp [] t.name x.v,p.self⟩ x.st=some e:=he
  simp only [he',bY]
  exact ⟨rfl,⟨by omega,by omega⟩,rfl,⟨rfl,rfl⟩,a8 (fun q=>⟨q,(by repeat' (first | exact trivial | rfl | apply And.intro))⟩) (fun q=>⟨by simpa using q,(by repeat' (first | exact trivial | rfl | apply And.intro))⟩)⟩
 rw [if_neg (fun q=>hk (Xd q))] at he
 simp only [he,bY]
 exact ⟨⟨rfl,rfl⟩,a8 (fun q=>⟨q,(by repeat' (first | exact trivial | rfl | apply And.intro))⟩) (fun q=>⟨by simpa using q,(by repeat' (first | exact trivial | rfl | apply And.intro))⟩)⟩
theorem yK   :
  (∃(x:Nat),x<=(7:Nat)/\(0:Int)=(↑x:Int)/\List.foldl (du (2:Int)) none (List.take x two)=none/\[[(97:UInt8),(100:UInt8),(100:UInt8)],[(115:UInt8),(117:UInt8),(98:UInt8)],[(109:UInt8),(117:UInt8),(108:UInt8)],[(108:UInt8),(101:UInt8),(115:UInt8),(115:UInt8)],[(115:UInt8),(97:UInt8),(109:UInt8),(101:UInt8)],[(98:UInt8),(111:UInt8),(116:UInt8),(104:UInt8)],[(99:UInt8),(97:UInt8),(116:UInt8)]]=[[(97:UInt8),(100:UInt8),(100:UInt8)],[(115:UInt8),(117:UInt8),(98:UInt8)],[(109:UInt8),(117:UInt8),(108:UInt8)],[(108:UInt8),(101:UInt8),(115:UInt8),(115:UInt8)],[(115:UInt8),(97:UInt8),(109:UInt8),(101:UInt8)],[(98:UInt8),(111:UInt8),(116:UInt8),(104:UInt8)],[(99:UInt8),(97:UInt8),(116:UInt8)]]/\(↑(List.length [[(97:UInt8),(100:UInt8),(100:UInt8)],[(115:UInt8),(117:UInt8),(98:UInt8)],[(109:UInt8),(117:UInt8),(108:UInt8)],[(108:UInt8),(101:UInt8),(115:UInt8),(115:UInt8)],[(115:UInt8),(97:UInt8),(109:UInt8),(101:UInt8)],[(98:UInt8),(111:UInt8),(116:UInt8),(104:UInt8)],[(99:UInt8),(97:UInt8),(116:UInt8)]]):Int)=(↑(List.length [[(97:UInt8),(100:UInt8),(100:UInt8)],[(115:UInt8),(117:UInt8),(98:UInt8)],[(109:UInt8),(117:UInt8),(108:UInt8)],[(108:UInt8),(101:UInt8),(115:UInt8),(115:UInt8)],[(115:UInt8),(97:UInt8),(109:UInt8),(101:UInt8)],[(98:UInt8),(111:UInt8),(116:UInt8),(104:UInt8)],[(99:UInt8),(97:UInt8),(116:UInt8)]]):Int)/\List.length [[(97:UInt8),(100:UInt8),(100:UInt8)],[(115:UInt8),(117:UInt8),(98:UInt8)],[(109:UInt8),(117:UInt8),(108:UInt8)],[(108:UInt8),(101:UInt8),(115:UInt8),(115:UInt8)],[(115:UInt8),(97:UInt8),(109:UInt8),(101:UInt8)],[(98:UInt8),(111:UInt8),(116:UInt8),(104:UInt8)],[(99:UInt8),(97:UInt8),(116:UInt8)]]=List.length [[(97:UInt8),(100:UInt8),(100:UInt8)],[(115:UInt8),(117:UInt8),(98:UInt8)],[(109:UInt8),(117:UInt8),(108:UInt8)],[(108:UInt8),(101:UInt8),(115:UInt8),(115:UInt8)],[(115:UInt8),(97:UInt8),(109:UInt8),(101:UInt8)],[(98:UInt8),(111:UInt8),(116:UInt8),(104:UInt8)],[(99:UInt8),(97:UInt8),(116:UInt8)]]/\True)/\∀(x:Nat),x<=(7:Nat)→if decide ((↑x:Int) < (↑(List.length [[(97:UInt8),(100:UInt8),(100:UInt8)],[(115:UInt8),(117:UInt8),(98:UInt8)],[(109:UInt8),(117:UInt8),(108:UInt8)],[(108:UInt8),(101:UInt8),(115:UInt8),(115:UInt8)],[(115:UInt8),(97:UInt8),(109:UInt8),(101:UInt8)],[(98:UInt8),(111:UInt8),(116:UInt8),(104:UInt8)],[(99:UInt8),(97:UInt8),(116:UInt8)]]):Int))=true then ((0:Int)<=(↑x:Int)/\(↑x:Int) < (↑(List.length [[(97:UInt8),(100:UInt8),(100:UInt8)],[(115:UInt8),(117:UInt8),(98:UInt8)],[(109:UInt8),(117:UInt8),(108:UInt8)],[(108:UInt8),(101:UInt8),(115:UInt8),(115:UInt8)],[(115:UInt8),(97:UInt8),(109:UInt8),(101:UInt8)],[(98:UInt8),(111:UInt8),(116:UInt8),(104:UInt8)],[(99:UInt8),(97:UInt8),(116:UInt8)]]):Int))/\inR IntKind.i64 ((↑x:Int)+(1:Int))/\∃(y:Nat),y<=(7:Nat)/\(7:Nat) - y < (7:Nat) - x/\(↑x:Int)+(1:Int)=(↑y:Int)
  /\cA (List.foldl (du (2:Int)) none (List.take x two)) [] (List.getD [[(97:UInt8),(100:UInt8),(100:UInt8)],[(115:UInt8),(117:UInt8),(98:UInt8)],[(109:UInt8),(117:UInt8),(108:UInt8)],[(108:UInt8),(101:UInt8),(115:UInt8),(115:UInt8)],[(115:UInt8),(97:UInt8),(109:UInt8),(101:UInt8)],[(98:UInt8),(111:UInt8),(116:UInt8),(104:UInt8)],[(99:UInt8),(97:UInt8),(116:UInt8)]] (Int.toNat (↑x:Int)) (dfl Ty.str)) (Thg.mk (8:Int) (0:Int) [] [] [] [] (some (Fnc.mk none [] [] none (List.getD [[(97:UInt8),(100:UInt8),(100:UInt8)],[(115:UInt8),(117:UInt8),(98:UInt8)],[(109:UInt8),(117:UInt8),(108:UInt8)],[(108:UInt8),(101:UInt8),(115:UInt8),(115:UInt8)],[(115:UInt8),(97:UInt8),(109:UInt8),(101:UInt8)],[(98:UInt8),(111:UInt8),(116:UInt8),(104:UInt8)],[(99:UInt8),(97:UInt8),(116:UInt8)]] (Int.toNat (↑x:Int)) (dfl Ty.str)) (2:Int))))=List.foldl (du (2:Int)) none (List.take y two)/\[[(97:UInt8),(100:UInt8),(100:UInt8)],[(115:UInt8),(117:UInt8),(98:UInt8)],[(109:UInt8),(117:UInt8),(108:UInt8)],[(108:UInt8),(101:UInt8),(115:UInt8),(115:UInt8)],[(115:UInt8),(97:UInt8),(109:UInt8),(101:UInt8)],[(98:UInt8),(111:UInt8),(116:UInt8),(104:UInt8)],[(99:UInt8),(97:UInt8),(116:UInt8)]]=[[(97:UInt8),(100:UInt8),(100:UInt8)],[(115:UInt8),(117:UInt8),(98:UInt8)],[(109:UInt8),(117:UInt8),(108:UInt8)],[(108:UInt8),(101:UInt8),(115:UInt8),(115:UInt8)],[(115:UInt8),(97:UInt8),(109:UInt8),(101:UInt8)],[(98:UInt8),(111:UInt8),(116:UInt8),(104:UInt8)],[(99:UInt8),(97:UInt8),(116:UInt8)]]/\(↑(List.length [[(97:UInt8),(100:UInt8),(100:UInt8)],[(115:UInt8),(117:UInt8),(98:UInt8)],[(109:UInt8),(117:UInt8),(108:UInt8)],[(108:UInt8),(101:UInt8),(115:UInt8),(115:UInt8)],[(115:UInt8),(97:UInt8),(109:UInt8),(101:UInt8)],[(98:UInt8),(111:UInt8),(116:UInt8),(104:UInt8)],[(99:UInt8),(97:UInt8),(116:UInt8)]]):Int)=(↑(List.length [[(97:UInt8),(100:UInt8),(100:UInt8)],[(115:UInt8),(117:UInt8),(98:UInt8)],[(109:UInt8),(117:UInt8),(108:UInt8)],[(108:UInt8),(101:UInt8),(115:UInt8),(115:UInt8)],[(115:UInt8),(97:UInt8),(109:UInt8),(101:UInt8)],[(98:UInt8),(111:UInt8),(116:UInt8),(104:UInt8)],[(99:UInt8),(97:UInt8),(116:UInt8)]]):Int)/\List.length [[(97:UInt8),(100:UInt8),(100:UInt8)],[(115:UInt8),(117:UInt8),(98:UInt8)],[(109:UInt8),(117:UInt8),(108:UInt8)],[(108:UInt8),(101:UInt8),(115:UInt8),(115:UInt8)],[(115:UInt8),(97:UInt8),(109:UInt8),(101:UInt8)],[(98:UInt8),(111:UInt8),(116:UInt8),(104:UInt8)],[(99:UInt8),(97:UInt8),(116:UInt8)]]=List.length [[(97:UInt8),(100:UInt8),(100:UInt8)],[(115:UInt8),(117:UInt8),(98:UInt8)],[(109:UInt8),(117:UInt8),(108:UInt8)],[(108:UInt8),(101:UInt8),(115:UInt8),(115:UInt8)],[(115:UInt8),(97:UInt8),(109:UInt8),(101:UInt8)],[(98:UInt8),(111:UInt8),(116:UInt8),(104:UInt8)],[(99:UInt8),(97:UInt8),(116:UInt8)]]/\True else (∃(x_1:Nat),x_1<=(3:Nat)/\(0:Int)=(↑x_1:Int)/\List.foldl (du (2:Int)) none (List.take x two)=List.foldl (du (1:Int)) (List.foldl (du (2:Int)) none two) (List.take x_1 jP)/\(↑x:Int)=(↑x:Int)
  /\[[(97:UInt8),(100:UInt8),(100:UInt8)],[(115:UInt8),(117:UInt8),(98:UInt8)],[(109:UInt8),(117:UInt8),(108:UInt8)],[(108:UInt8),(101:UInt8),(115:UInt8),(115:UInt8)],[(115:UInt8),(97:UInt8),(109:UInt8),(101:UInt8)],[(98:UInt8),(111:UInt8),(116:UInt8),(104:UInt8)],[(99:UInt8),(97:UInt8),(116:UInt8)]]=[[(97:UInt8),(100:UInt8),(100:UInt8)],[(115:UInt8),(117:UInt8),(98:UInt8)],[(109:UInt8),(117:UInt8),(108:UInt8)],[(108:UInt8),(101:UInt8),(115:UInt8),(115:UInt8)],[(115:UInt8),(97:UInt8),(109:UInt8),(101:UInt8)],[(98:UInt8),(111:UInt8),(116:UInt8),(104:UInt8)],[(99:UInt8),(97:UInt8),(116:UInt8)]]/\(↑(List.length [[(97:UInt8),(100:UInt8),(100:UInt8)],[(115:UInt8),(117:UInt8),(98:UInt8)],[(109:UInt8),(117:UInt8),(108:UInt8)],[(108:UInt8),(101:UInt8),(115:UInt8),(115:UInt8)],[(115:UInt8),(97:UInt8),(109:UInt8),(101:UInt8)],[(98:UInt8),(111:UInt8),(116:UInt8),(104:UInt8)],[(99:UInt8),(97:UInt8),(116:UInt8)]]):Int)=(↑(List.length [[(97:UInt8),(100:UInt8),(100:UInt8)],[(115:UInt8),(117:UInt8),(98:UInt8)],[(109:UInt8),(117:UInt8),(108:UInt8)],[(108:UInt8),(101:UInt8),(115:UInt8),(115:UInt8)],[(115:UInt8),(97:UInt8),(109:UInt8),(101:UInt8)],[(98:UInt8),(111:UInt8),(116:UInt8),(104:UInt8)],[(99:UInt8),(97:UInt8),(116:UInt8)]]):Int)/\false=false/\[[(110:UInt8),(111:UInt8),(116:UInt8)],[(115:UInt8),(105:UInt8),(122:UInt8),(101:UInt8)],[(115:UInt8),(104:UInt8),(111:UInt8),(119:UInt8)]]=[[(110:UInt8),(111:UInt8),(116:UInt8)],[(115:UInt8),(105:UInt8),(122:UInt8),(101:UInt8)],[(115:UInt8),(104:UInt8),(111:UInt8),(119:UInt8)]]/\(↑(List.length [[(110:UInt8),(111:UInt8),(116:UInt8)],[(115:UInt8),(105:UInt8),(122:UInt8),(101:UInt8)],[(115:UInt8),(104:UInt8),(111:UInt8),(119:UInt8)]]):Int)=(↑(List.length [[(110:UInt8),(111:UInt8),(116:UInt8)],[(115:UInt8),(105:UInt8),(122:UInt8),(101:UInt8)],[(115:UInt8),(104:UInt8),(111:UInt8),(119:UInt8)]]):Int)/\List.length [[(97:UInt8),(100:UInt8),(100:UInt8)],[(115:UInt8),(117:UInt8),(98:UInt8)],[(109:UInt8),(117:UInt8),(108:UInt8)],[(108:UInt8),(101:UInt8),(115:UInt8),(115:UInt8)],[(115:UInt8),(97:UInt8),(109:UInt8),(101:UInt8)],[(98:UInt8),(111:UInt8),(116:UInt8),(104:UInt8)],[(99:UInt8),(97:UInt8),(116:UInt8)]]=List.length [[(97:UInt8),(100:UInt8),(100:UInt8)],[(115:UInt8),(117:UInt8),(98:UInt8)],[(109:UInt8),(117:UInt8),(108:UInt8)],[(108:UInt8),(101:UInt8),(115:UInt8),(115:UInt8)],[(115:UInt8),(97:UInt8),(109:UInt8),(101:UInt8)],[(98:UInt8),(111:UInt8),(116:UInt8),(104:UInt8)],[(99:UInt8),(97:UInt8),(116:UInt8)]]/\List.length [[(110:UInt8),(111:UInt8),(116:UInt8)],[(115:UInt8),(105:UInt8),(122:UInt8),(101:UInt8)],[(115:UInt8),(104:UInt8),(111:UInt8),(119:UInt8)]]=List.length [[(110:UInt8),(111:UInt8),(116:UInt8)],[(115:UInt8),(105:UInt8),(122:UInt8),(101:UInt8)],[(115:UInt8),(104:UInt8),(111:UInt8),(119:UInt8)]]/\True)/\∀(x_1:Nat),x_1<=(3:Nat)→if decide ((↑x_1:Int) < (↑(List.length [[(110:UInt8),(111:UInt8),(116:UInt8)],[(115:UInt8),(105:UInt8),(122:UInt8),(101:UInt8)],[(115:UInt8),(104:UInt8),(111:UInt8),(119:UInt8)]]):Int))=true then ((0:Int)<=(↑x_1:Int)/\(↑x_1:Int) < (↑(List.length [[(110:UInt8),(111:UInt8),(116:UInt8)],[(115:UInt8),(105:UInt8),(122:UInt8),(101:UInt8)],[(115:UInt8),(104:UInt8),(111:UInt8),(119:UInt8)]]):Int))/\inR IntKind.i64 ((↑x_1:Int)+(1:Int))
  /\∃(y:Nat),y<=(3:Nat)/\(3:Nat) - y < (3:Nat) - x_1/\(↑x_1:Int)+(1:Int)=(↑y:Int)/\cA (List.foldl (du (1:Int)) (List.foldl (du (2:Int)) none two) (List.take x_1 jP)) [] (List.getD [[(110:UInt8),(111:UInt8),(116:UInt8)],[(115:UInt8),(105:UInt8),(122:UInt8),(101:UInt8)],[(115:UInt8),(104:UInt8),(111:UInt8),(119:UInt8)]] (Int.toNat (↑x_1:Int)) (dfl Ty.str)) (Thg.mk (8:Int) (0:Int) [] [] [] [] (some (Fnc.mk none [] [] none (List.getD [[(110:UInt8),(111:UInt8),(116:UInt8)],[(115:UInt8),(105:UInt8),(122:UInt8),(101:UInt8)],[(115:UInt8),(104:UInt8),(111:UInt8),(119:UInt8)]] (Int.toNat (↑x_1:Int)) (dfl Ty.str)) (1:Int))))=List.foldl (du (1:Int)) (List.foldl (du (2:Int)) none two) (List.take y jP)/\(↑x:Int)=(↑x:Int)/\[[(97:UInt8),(100:UInt8),(100:UInt8)],[(115:UInt8),(117:UInt8),(98:UInt8)],[(109:UInt8),(117:UInt8),(108:UInt8)],[(108:UInt8),(101:UInt8),(115:UInt8),(115:UInt8)],[(115:UInt8),(97:UInt8),(109:UInt8),(101:UInt8)],[(98:UInt8),(111:UInt8),(116:UInt8),(104:UInt8)],[(99:UInt8),(97:UInt8),(116:UInt8)]]=[[(97:UInt8),(100:UInt8),(100:UInt8)],[(115:UInt8),(117:UInt8),(98:UInt8)],[(109:UInt8),(117:UInt8),(108:UInt8)],[(108:UInt8),(101:UInt8),(115:UInt8),(115:UInt8)],[(115:UInt8),(97:UInt8),(109:UInt8),(101:UInt8)],[(98:UInt8),(111:UInt8),(116:UInt8),(104:UInt8)],[(99:UInt8),(97:UInt8),(116:UInt8)]]/\(↑(List.length [[(97:UInt8),(100:UInt8),(100:UInt8)],[(115:UInt8),(117:UInt8),(98:UInt8)],[(109:UInt8),(117:UInt8),(108:UInt8)],[(108:UInt8),(101:UInt8),(115:UInt8),(115:UInt8)],[(115:UInt8),(97:UInt8),(109:UInt8),(101:UInt8)],[(98:UInt8),(111:UInt8),(116:UInt8),(104:UInt8)],[(99:UInt8),(97:UInt8),(116:UInt8)]]):Int)=(↑(List.length [[(97:UInt8),(100:UInt8),(100:UInt8)],[(115:UInt8),(117:UInt8),(98:UInt8)],[(109:UInt8),(117:UInt8),(108:UInt8)],[(108:UInt8),(101:UInt8),(115:UInt8),(115:UInt8)],[(115:UInt8),(97:UInt8),(109:UInt8),(101:UInt8)],[(98:UInt8),(111:UInt8),(116:UInt8),(104:UInt8)],[(99:UInt8),(97:UInt8),(116:UInt8)]]):Int)/\false=false/\[[(110:UInt8),(111:UInt8),(116:UInt8)],[(115:UInt8),(105:UInt8),(122:UInt8),(101:UInt8)],[(115:UInt8),(104:UInt8),(111:UInt8),(119:UInt8)]]=[[(110:UInt8),(111:UInt8),(116:UInt8)],[(115:UInt8),(105:UInt8),(122:UInt8),(101:UInt8)],[(115:UInt8),(104:UInt8),(111:UInt8),(119:UInt8)]]/\(↑(List.length [[(110:UInt8),(111:UInt8),(116:UInt8)],[(115:UInt8),(105:UInt8),(122:UInt8),(101:UInt8)],[(115:UInt8),(104:UInt8),(111:UInt8),(119:UInt8)]]):Int)=(↑(List.length [[(110:UInt8),(111:UInt8),(116:UInt8)],[(115:UInt8),(105:UInt8),(122:UInt8),(101:UInt8)],[(115:UInt8),(104:UInt8),(111:UInt8),(119:UInt8)]]):Int)/\List.length [[(97:UInt8),(100:UInt8),(100:UInt8)],[(115:UInt8),(117:UInt8),(98:UInt8)],[(109:UInt8),(117:UInt8),(108:UInt8)],[(108:UInt8),(101:UInt8),(115:UInt8),(115:UInt8)],[(115:UInt8),(97:UInt8),(109:UInt8),(101:UInt8)],[(98:UInt8),(111:UInt8),(116:UInt8),(104:UInt8)],[(99:UInt8),(97:UInt8),(116:UInt8)]]=List.length [[(97:UInt8),(100:UInt8),(100:UInt8)],[(115:UInt8),(117:UInt8),(98:UInt8)],[(109:UInt8),(117:UInt8),(108:UInt8)],[(108:UInt8),(101:UInt8),(115:UInt8),(115:UInt8)],[(115:UInt8),(97:UInt8),(109:UInt8),(101:UInt8)],[(98:UInt8),(111:UInt8),(116:UInt8),(104:UInt8)],[(99:UInt8),(97:UInt8),(116:UInt8)]]
  /\List.length [[(110:UInt8),(111:UInt8),(116:UInt8)],[(115:UInt8),(105:UInt8),(122:UInt8),(101:UInt8)],[(115:UInt8),(104:UInt8),(111:UInt8),(119:UInt8)]]=List.length [[(110:UInt8),(111:UInt8),(116:UInt8)],[(115:UInt8),(105:UInt8),(122:UInt8),(101:UInt8)],[(115:UInt8),(104:UInt8),(111:UInt8),(119:UInt8)]]/\True else True/\List.foldl (du (1:Int)) (List.foldl (du (2:Int)) none two) (List.take x_1 jP)=ck/\True:=by
 have suc:∀(k:Int) (l:List Str) (s:Option Scp) (x:Nat),x < l.length→cA (List.foldl (du k) s (List.take x l)) [] (l.getD x []) (Thg.mk 8 0 [] [] [] [] (some (Fnc.mk none [] [] none (l.getD x []) k)))=List.foldl (du k) s (List.take (x+1) l):=by
  intro k l
  induction l with
  | nil=>intro s x h;cases h
  | cons a r ih=>
   intro s x h
   cases x with
   | zero=>rfl
   | succ x=>exact ih (du k s a) x (by simpa using h)
 rw [show ([[97,100,100],[115,117,98],[109,117,108],[108,101,115,115],[115,97,109,101],[98,111,116,104],[99,97,116]]:List Str)=two from rfl,show ([[110,111,116],[115,105,122,101],[115,104,111,119]]:List Str)=jP from rfl]
 refine ⟨⟨0,by omega,rfl,rfl,(by repeat' (first | exact trivial | rfl | apply And.intro))⟩,?_⟩
 intro x hx
 refine a8 (fun h=>?_) (fun h=>?_)
 ·have h:x < two.length:=by have:=Xo h;omega
  exact ⟨⟨by omega,by omega⟩,bM (by omega) (by have:two.length=7:=rfl;omega),x+1,(show x+1<=two.length from h),by have:two.length=7:=rfl;omega,rfl,suc 2 two none x h,(by repeat' (first | exact trivial | rfl | apply And.intro))⟩
 ·have e:x=7:=by
   have h:¬x < two.length:=fun q=>h (Xd (by omega))
   have:two.length=7:=rfl
   omega
  subst e
  refine ⟨⟨0,by omega,rfl,rfl,(by repeat' (first | exact trivial | rfl | apply And.intro))⟩,?_⟩
  intro y hy
  refine a8 (fun h=>?_) (fun h=>?_)
  ·have h:y < jP.length:=by have:=Xo h;omega
   exact ⟨⟨by omega,by omega⟩,bM (by omega) (by have:jP.length=3:=rfl;omega),y+1,(show y+1<=jP.length from h),by have:jP.length=3:=rfl;omega,rfl,suc 1 jP _ y h,(by repeat' (first | exact trivial | rfl | apply And.intro))⟩
  ·have e:y=3:=by
    have h:¬y < jP.length:=fun q=>h (Xd (by omega))
    have:jP.length=3:=rfl
    omega
   subst e
   exact ⟨trivial,rfl,trivial⟩
theorem Ck (n:Nat) (x:Thg) (r:Int) (hx:Wf (.st .thing) x) (ho:(aP (n+1) x r).isSome=true) :
  inR IntKind.i64 (r - (1:Int))/\if decide (r - (1:Int) < (0:Int))=true then True/\(0:Int)=(cM (aP (n+(1:Nat)) x r)).v.kind/\(0:Int)=(cM (aP (n+(1:Nat)) x r)).v.n/\[]=(cM (aP (n+(1:Nat)) x r)).v.pkg/\[]=(cM (aP (n+(1:Nat)) x r)).v.text/\(cM (aP (n+(1:Nat)) x r)).v.names=[]/\(cM (aP (n+(1:Nat)) x r)).v.parts=[]/\false=(cM (aP (n+(1:Nat)) x r)).ok/\r - (1:Int)=(cM (aP (n+(1:Nat)) x r)).room/\True else List.length (Thg.names x) *(16:Nat)<=(140737488355328:Nat)/\(if Option.isSome (Thg.fn x)=true then Option.isSome (Thg.fn x)=true/\x=x/\false=false/\false=false/\Thg.kind x=Thg.kind x/\Fnc.args (Option.getD (Thg.fn x) (dfl (Ty.st SN.func)))=fnN x/\Thg.pkg x=Thg.pkg x/\Thg.text x=Thg.text x/\Thg.names x=Thg.names x/\r - (1:Int)=r - (1:Int)/\x=x/\(0:Int)=(0:Int)/\(0:Int)=(0:Int)/\bA UInt8=bA UInt8/\bA UInt8=bA UInt8/\True else x=x/\false=false/\false=false/\Thg.kind x=Thg.kind x/\Thg.n x=fnN x/\Thg.pkg x=Thg.pkg x/\Thg.text x=Thg.text x/\Thg.names x=Thg.names x/\r - (1:Int)=r - (1:Int)/\x=x/\(0:Int)=(0:Int)/\(0:Int)=(0:Int)/\bA UInt8=bA UInt8/\bA UInt8=bA UInt8/\True)/\(∃(x_1:Nat × List Vlu × Int),(x_1.1<=List.length (Thg.parts x)/\List.length x_1.2.1=x_1.1/\fe (aP n) (List.drop x_1.1 (Thg.parts x)) x_1.2.1 x_1.2.2=fe (aP n) (Thg.parts x) [] (r - (1:Int)))/\(0:Int)=(↑x_1.1:Int)/\x=x/\false=false/\Thg.parts x=Thg.parts x/\(↑(List.length (Thg.parts x)):Int)=(↑(List.length (Thg.parts x)):Int)/\Thg.kind x=Thg.kind x/\fnN x=fnN x/\Thg.pkg x=Thg.pkg x/\Thg.text x=Thg.text x/\Thg.names x=Thg.names x/\x_1.2.1=[]/\List.length x_1.2.1=(0:Nat)/\r - (1:Int)=x_1.2.2/\x=x/\(0:Int)=(0:Int)/\(0:Int)=(0:Int)/\bA UInt8=bA UInt8/\bA UInt8=bA UInt8/\True)/\∀(x_1:Nat × List Vlu × Int),x_1.1<=List.length (Thg.parts x)/\List.length x_1.2.1=x_1.1/\fe (aP n) (List.drop x_1.1 (Thg.parts x)) x_1.2.1 x_1.2.2=fe (aP n) (Thg.parts x) [] (r - (1:Int))→if decide ((↑x_1.1:Int) < (↑(List.length (Thg.parts x)):Int))=true then ((0:Int)<=(↑x_1.1:Int)/\(↑x_1.1:Int) < (↑(List.length (Thg.parts x)):Int))/\Option.isSome (aP n (List.getD (Thg.parts x) (Int.toNat (↑x_1.1:Int)) (dfl (Ty.st SN.thing))) x_1.2.2)=true/\if (!(cM (aP n (List.getD (Thg.parts x) (Int.toNat (↑x_1.1:Int)) (dfl (Ty.st SN.thing))) x_1.2.2)).ok)=true then True/\(0:Int)=(cM (aP (n+(1:Nat)) x r)).v.kind/\(0:Int)=(cM (aP (n+(1:Nat)) x r)).v.n/\[]=(cM (aP (n+(1:Nat)) x r)).v.pkg/\[]=(cM (aP (n+(1:Nat)) x r)).v.text/\(cM (aP (n+(1:Nat)) x r)).v.names=[]/\(cM (aP (n+(1:Nat)) x r)).v.parts=[]/\false=(cM (aP (n+(1:Nat)) x r)).ok/\(cM (aP n (List.getD (Thg.parts x) (Int.toNat (↑x_1.1:Int)) (dfl (Ty.st SN.thing))) x_1.2.2)).room=(cM (aP (n+(1:Nat)) x r)).room/\True else (List.length x_1.2.1=List.length x_1.2.1/\(List.length x_1.2.1+List.length [(cM (aP n (List.getD (Thg.parts x) (Int.toNat (↑x_1.1:Int)) (dfl (Ty.st SN.thing))) x_1.2.2)).v]) *(96:Nat)<=(140737488355328:Nat))/\inR IntKind.i64 ((↑x_1.1:Int)+(1:Int))/\∃(y:Nat × List Vlu × Int),(y.1<=List.length (Thg.parts x)/\List.length y.2.1=y.1/\fe (aP n) (List.drop y.1 (Thg.parts x)) y.2.1 y.2.2=fe (aP n) (Thg.parts x) [] (r - (1:Int)))/\List.length (Thg.parts x) - y.1 < List.length (Thg.parts x) - x_1.1/\(↑x_1.1:Int)+(1:Int)=(↑y.1:Int)/\x=x/\false=false/\Thg.parts x=Thg.parts x/\(↑(List.length (Thg.parts x)):Int)=(↑(List.length (Thg.parts x)):Int)
  /\Thg.kind x=Thg.kind x/\fnN x=fnN x/\Thg.pkg x=Thg.pkg x/\Thg.text x=Thg.text x/\Thg.names x=Thg.names x/\x_1.2.1++[(cM (aP n (List.getD (Thg.parts x) (Int.toNat (↑x_1.1:Int)) (dfl (Ty.st SN.thing))) x_1.2.2)).v]=y.2.1/\List.length (x_1.2.1++[(cM (aP n (List.getD (Thg.parts x) (Int.toNat (↑x_1.1:Int)) (dfl (Ty.st SN.thing))) x_1.2.2)).v])=List.length y.2.1/\(cM (aP n (List.getD (Thg.parts x) (Int.toNat (↑x_1.1:Int)) (dfl (Ty.st SN.thing))) x_1.2.2)).room=y.2.2/\x=x/\(0:Int)=(0:Int)/\(0:Int)=(0:Int)/\bA UInt8=bA UInt8/\bA UInt8=bA UInt8/\True else True/\Thg.kind x=(cM (aP (n+(1:Nat)) x r)).v.kind/\fnN x=(cM (aP (n+(1:Nat)) x r)).v.n/\Thg.pkg x=(cM (aP (n+(1:Nat)) x r)).v.pkg/\Thg.text x=(cM (aP (n+(1:Nat)) x r)).v.text/\Thg.names x=(cM (aP (n+(1:Nat)) x r)).v.names/\x_1.2.1=(cM (aP (n+(1:Nat)) x r)).v.parts/\true=(cM (aP (n+(1:Nat)) x r)).ok/\x_1.2.2=(cM (aP (n+(1:Nat)) x r)).room/\True:=by
 have ln:=(Wf.thing_parts hx).len
 obtain ⟨e,he⟩:=Option.isSome_iff_exists.1 ho
 simp only [he,lS]
 simp only [aP] at he
 split at he
 ·cases he
 rename_i hr
 have hr:oJ r:=by
  by_cases q:oJ r
  ·exact q
  ·exact absurd q hr
 obtain ⟨r0,r1⟩:=hr
 refine ⟨bM (by omega) (by omega),a8 (fun h=>?_) (fun h=>?_)⟩
 ·rw [if_pos (Xo h)] at he
  cases he
  exact (by repeat' (first | exact trivial | rfl | apply And.intro))
 rw [if_neg (fun q=>h (Xd q))] at he
 split at he
 ·cases he
 rename_i hb
 obtain ⟨w,hw⟩:=dB (r:=fe (aP n) x.parts [] (r - 1)) (fun q=>by rw [q] at he;cases he)
 rw [hw] at he
 have he:e=endT x w:=(Option.some.inj he).symm
 subst he
 simp only [hw,Int.toNat_natCast]
 refine ⟨by omega,a8 (fun hf=>?_) (fun hf=>?_),⟨(0,[],r - 1),⟨Nat.zero_le _,rfl,by rw [List.drop_zero];exact hw⟩,(by repeat' (first | exact trivial | rfl | apply And.intro))⟩,?_⟩
 ·have e1:Fnc.args (Option.getD x.fn (dfl (Ty.st SN.func)))=fnN x:=(if_pos hf).symm
  refine ⟨hf,?_⟩
  repeat' (first | exact trivial | rfl | exact e1 | apply And.intro)
 ·have e1:x.n=fnN x:=(if_neg hf).symm
  repeat' (first | exact trivial | rfl | exact e1 | apply And.intro)
 rintro ⟨k,out,s'⟩ ⟨h1,h2,h3⟩
 simp only at h1 h2 h3 ⊢
 refine a8 (fun h=>?_) (fun h=>?_)
 ·have hk:k < x.parts.length:=by have:=Xo h;omega
  rw [bf x.parts k (dfl (Ty.st SN.thing)) hk] at h3
  simp only [fe] at h3
  obtain ⟨v,hv⟩:∃v,aP n (x.parts.getD k (dfl (Ty.st SN.thing))) s'=some v:=by
   cases q:aP n (x.parts.getD k (dfl (Ty.st SN.thing))) s' with
   | none=>rw [q] at h3;cases h3
   | some v=>exact ⟨v,rfl⟩
  rw [hv] at h3
  simp only at h3
  simp only [hv,lS]
  refine ⟨⟨by omega,by omega⟩,rfl,a8 (fun hc=>?_) (fun hc=>?_)⟩
  ·have hc':v.ok=false:=by simpa using hc
   rw [if_neg (by rw [hc'];decide)] at h3
   cases h3
   exact (by repeat' (first | exact trivial | rfl | apply And.intro))
  ·have hc':v.ok=true:=by simpa using hc
   rw [if_pos hc'] at h3
   refine ⟨⟨trivial,by simp only [List.length_singleton];omega⟩,bV hk ln,(k+1,out++[v.v],v.room),⟨by omega,by simp [h2],h3⟩,by simp only;omega,by simp only;omega,(by repeat' (first | exact trivial | rfl | apply And.intro))⟩
 ·have e1:k=x.parts.length:=by have q:¬_:=fun q=>h (Xd q);omega
  subst e1
  rw [List.drop_length] at h3
  simp only [fe] at h3
  cases h3
  exact (by repeat' (first | exact trivial | rfl | apply And.intro))
theorem yL (m:Nat) (x:Thg) (a:Int) (hx:Wf (.st .thing) x) (ho:(bU m x a).isSome=true) :
  Option.isSome (aP m x (2000:Int))=true/\if (!(cM (aP m x (2000:Int))).ok)=true then (!decide ((js (bU m x a)).f.err=(0:Int)))=true/\(3:Int)=(js (bU m x a)).f.err/\a=(js (bU m x a)).f.pos/\True else bD (cM (aP m x (2000:Int))).v=true/\if (!decide (fb (cM (aP m x (2000:Int))).v=(0:Int)))=true then (!decide ((js (bU m x a)).f.err=(0:Int)))=true/\fb (cM (aP m x (2000:Int))).v=(js (bU m x a)).f.err/\a=(js (bU m x a)).f.pos/\True else (!decide ((js (bU m x a)).f.err=(0:Int)))=false/\(cM (aP m x (2000:Int))).v=(js (bU m x a)).v/\True:=by
 obtain ⟨e,he⟩:=Option.isSome_iff_exists.1 ho
 simp only [he,qi]
 unfold bU at he
 obtain ⟨t,ht⟩:=dB (r:=aP m x 2000) (fun q=>by rw [q] at he;cases he)
 rw [ht] at he
 simp only at he
 simp only [ht,lS]
 refine ⟨rfl,a8 (fun h=>?_) (fun h=>?_)⟩
 ·have h:t.ok=false:=by simpa using h
  rw [if_neg (by rw [h];decide)] at he
  cases he
  exact (by repeat' (first | exact trivial | rfl | apply And.intro))
 have h:t.ok=true:=by simpa using h
 rw [if_pos h] at he
 split at he
 case isFalse=>cases he
 rename_i hf
 refine ⟨hf,a8 (fun hc=>?_) (fun hc=>?_)⟩
 ·rw [if_neg (ej hc)] at he
  cases he
  exact ⟨by simpa using ej hc,(by repeat' (first | exact trivial | rfl | apply And.intro))⟩
 ·rw [if_pos (eK hc)] at he
  cases he
  exact (by repeat' (first | exact trivial | rfl | apply And.intro))
theorem Cl (n m:Nat) (t:Trm) (mo:Int) (ht:Wf (.st .term) t) (ho:(bE n m t mo).isSome=true) :
  (Option.isSome (some t)=true/\Option.isSome (a7 mo n t {scp:=ck,self:=[]:Plc} (0:Int))=true)/\if (!decide ((ab (a7 mo n t {scp:=ck,self:=[]:Plc} (0:Int))).f.err=(0:Int)))=true then (!decide ((aR (bE n m t mo)).f.err=(0:Int)))=true/\(ab (a7 mo n t {scp:=ck,self:=[]:Plc} (0:Int))).f.err=(aR (bE n m t mo)).f.err/\(ab (a7 mo n t {scp:=ck,self:=[]:Plc} (0:Int))).f.pos=(aR (bE n m t mo)).f.pos/\(0:Int)=(0:Int)/\(0:Int)=(0:Int)/\bA UInt8=bA UInt8/\bA UInt8=bA UInt8/\(ab (a7 mo n t {scp:=ck,self:=[]:Plc} (0:Int))).st=(aR (bE n m t mo)).st/\mo=mo/\True else Option.isSome (bU m (ab (a7 mo n t {scp:=ck,self:=[]:Plc} (0:Int))).v t.pos)=true/\if (!decide ((js (bU m (ab (a7 mo n t {scp:=ck,self:=[]:Plc} (0:Int))).v t.pos)).f.err=(0:Int)))=true then (!decide ((aR (bE n m t mo)).f.err=(0:Int)))=true/\(js (bU m (ab (a7 mo n t {scp:=ck,self:=[]:Plc} (0:Int))).v t.pos)).f.err=(aR (bE n m t mo)).f.err/\(js (bU m (ab (a7 mo n t {scp:=ck,self:=[]:Plc} (0:Int))).v t.pos)).f.pos=(aR (bE n m t mo)).f.pos/\(0:Int)=(0:Int)/\(0:Int)=(0:Int)/\bA UInt8=bA UInt8/\bA UInt8=bA UInt8/\(ab (a7 mo n t {scp:=ck,self:=[]:Plc} (0:Int))).st=(aR (bE n m t mo)).st/\mo=mo/\True else (!decide ((aR (bE n m t mo)).f.err=(0:Int)))=false/\(js (bU m (ab (a7 mo n t {scp:=ck,self:=[]:Plc} (0:Int))).v t.pos)).v=(aR (bE n m t mo)).v/\(ab (a7 mo n t {scp:=ck,self:=[]:Plc} (0:Int))).st=(aR (bE n m t mo)).st/\mo=mo/\True:=by
 obtain ⟨r,hr⟩:=Option.isSome_iff_exists.1 ho
 simp only [hr,gU]
 unfold bE at hr
 obtain ⟨e,he,h2⟩:=Option.bind_eq_some_iff.1 hr
 have he':a7 mo n t {scp:=ck,self:=[]:Plc} 0=some e:=he
 simp only [he',bY]
 unfold Am at h2
 refine ⟨⟨rfl,rfl⟩,a8 (fun hc=>?_) (fun hc=>?_)⟩
 ·rw [if_neg (ej hc)] at h2
  cases h2
  exact ⟨hc,(by repeat' (first | exact trivial | rfl | apply And.intro))⟩
 rw [if_pos (eK hc)] at h2
 obtain ⟨s,hs,rfl⟩:=Option.map_eq_some_iff.1 h2
 simp only [hs,qi]
 refine ⟨rfl,a8 (fun hq=>?_) (fun hq=>?_)⟩
 ·rw [show swR e.st s=⟨fc,e.st,s.f⟩ from if_neg (ej hq)]
  exact ⟨hq,(by repeat' (first | exact trivial | rfl | apply And.intro))⟩
 ·rw [show swR e.st s=⟨s.v,e.st,⟨0,0⟩⟩ from if_pos (eK hq)]
  exact (by repeat' (first | exact trivial | rfl | apply And.intro))
theorem yM (n m:Nat) (t:Trm) (mo:Int) (ht:Wf (.st .term) t) (ho:(bE n m t mo).isSome=true) :
  Option.isSome (bE n m t mo)=true/\if (!decide ((aR (bE n m t mo)).f.err=(0:Int)))=true then (aR (bE n m t mo)).f.err=(aR (bE n m t mo)).f.err/\(aR (bE n m t mo)).f.pos=(aR (bE n m t mo)).f.pos/\(0:Int)=(aR (bE n m t mo)).v.kind/\(0:Int)=(aR (bE n m t mo)).v.n/\[]=(aR (bE n m t mo)).v.pkg/\[]=(aR (bE n m t mo)).v.text/\(aR (bE n m t mo)).v.names=[]/\(aR (bE n m t mo)).v.parts=[]/\(aR (bE n m t mo)).st=(aR (bE n m t mo)).st/\mo=mo/\True else (0:Int)=(aR (bE n m t mo)).f.err/\(0:Int)=(aR (bE n m t mo)).f.pos/\(aR (bE n m t mo)).v=(aR (bE n m t mo)).v/\(aR (bE n m t mo)).st=(aR (bE n m t mo)).st/\mo=mo/\True:=by
 obtain ⟨r,hr⟩:=Option.isSome_iff_exists.1 ho
 simp only [hr,gU]
 refine ⟨rfl,a8 (fun hc=>?_) (fun hc=>?_)⟩
 ·rw [DT hr (ej hc)]
  exact (by repeat' (first | exact trivial | rfl | apply And.intro))
 ·rw [Dh hr (eK hc)]
  exact (by repeat' (first | exact trivial | rfl | apply And.intro))
theorem Dn (n m:Nat) (t:Trm) (k:Int) (ht:Wf (.st .term) t) (hk:Wf (.int .i64) k) (hf:bj t=true) (ho:(bk n m t k).isSome=true) :
  bj t=true/\if (!decide (bG t=(0:Int)))=true then True/\(0:Int)=(aR (bk n m t k)).v.kind/\(0:Int)=(aR (bk n m t k)).v.n/\[]=(aR (bk n m t k)).v.pkg/\[]=(aR (bk n m t k)).v.text/\(aR (bk n m t k)).v.names=[]/\(aR (bk n m t k)).v.parts=[]/\(0:Int)=(aR (bk n m t k)).st/\bG t=(aR (bk n m t k)).f.err/\(0:Int)=(aR (bk n m t k)).f.pos/\True else if decide (k < (0:Int))=true then True/\(0:Int)=(aR (bk n m t k)).v.kind/\(0:Int)=(aR (bk n m t k)).v.n/\[]=(aR (bk n m t k)).v.pkg/\[]=(aR (bk n m t k)).v.text/\(aR (bk n m t k)).v.names=[]/\(aR (bk n m t k)).v.parts=[]/\(0:Int)=(aR (bk n m t k)).st/\(2:Int)=(aR (bk n m t k)).f.err/\(0:Int)=(aR (bk n m t k)).f.pos/\True else if decide ((2000:Int) < k)=true then True/\(0:Int)=(aR (bk n m t k)).v.kind/\(0:Int)=(aR (bk n m t k)).v.n/\[]=(aR (bk n m t k)).v.pkg/\[]=(aR (bk n m t k)).v.text/\(aR (bk n m t k)).v.names=[]/\(aR (bk n m t k)).v.parts=[]/\(0:Int)=(aR (bk n m t k)).st/\(2:Int)=(aR (bk n m t k)).f.err/\(0:Int)=(aR (bk n m t k)).f.pos/\True else Option.isSome (bE n m t k)=true/\if (!decide ((aR (bE n m t k)).f.err=(0:Int)))=true then True/\(0:Int)=(aR (bk n m t k)).v.kind/\(0:Int)=(aR (bk n m t k)).v.n/\[]=(aR (bk n m t k)).v.pkg/\[]=(aR (bk n m t k)).v.text/\(aR (bk n m t k)).v.names=[]/\(aR (bk n m t k)).v.parts=[]/\(0:Int)=(aR (bk n m t k)).st/\(aR (bE n m t k)).f=(aR (bk n m t k)).f/\True else True/\(aR (bE n m t k)).v=(aR (bk n m t k)).v/\(aR (bE n m t k)).st=(aR (bk n m t k)).st/\(0:Int)=(aR (bk n m t k)).f.err/\(0:Int)=(aR (bk n m t k)).f.pos/\True:=by
 obtain ⟨r,hr⟩:=Option.isSome_iff_exists.1 ho
 simp only [hr,gU]
 unfold bk at hr
 refine ⟨hf,a8 (fun hc=>?_) (fun hc=>?_)⟩
 ·rw [if_pos (ej hc)] at hr
  cases hr
  exact (by repeat' (first | exact trivial | rfl | apply And.intro))
 rw [if_neg (fun q=>q (eK hc))] at hr
 refine a8 (fun h1=>?_) (fun h1=>?_)
 ·rw [if_pos (Or.inl (Xo h1))] at hr
  cases hr
  exact (by repeat' (first | exact trivial | rfl | apply And.intro))
 refine a8 (fun h2=>?_) (fun h2=>?_)
 ·rw [if_pos (Or.inr (Xo h2))] at hr
  cases hr
  exact (by repeat' (first | exact trivial | rfl | apply And.intro))
 rw [if_neg (fun q=>q.elim (fun q=>h1 (Xd q)) (fun q=>h2 (Xd q)))] at hr
 obtain ⟨w,hw,rfl⟩:=Option.map_eq_some_iff.1 hr
 simp only [hw,gU]
 refine ⟨rfl,a8 (fun hc=>?_) (fun hc=>?_)⟩
 ·rw [show C2 w=⟨fc,0,w.f⟩ from if_neg (ej hc)]
  exact (by repeat' (first | exact trivial | rfl | apply And.intro))
 ·rw [show C2 w=⟨w.v,w.st,⟨0,0⟩⟩ from if_pos (eK hc)]
  exact (by repeat' (first | exact trivial | rfl | apply And.intro))
theorem vU (n:Nat) (a:Vlu) (ha:Wf (.st .val) a) (hz:szV a<=n+1) :
  if (!decide (a.kind=a.kind))=true then True/\false=true/\True else if (!decide (a.n=a.n))=true then True/\false=true/\True else if (!decide (a.pkg=a.pkg))=true then True/\false=true/\True else if (!decide (a.text=a.text))=true then True/\false=true/\True else if (!decide ((↑(List.length a.names):Int)=(↑(List.length a.names):Int)))=true then True/\false=true/\True else if (!decide ((↑(List.length a.parts):Int)=(↑(List.length a.parts):Int)))=true then True/\false=true/\True else (∃(x:Nat),x<=List.length a.names/\(0:Int)=(↑x:Int)/\a=a/\a=a/\false=false/\a=a/\a=a/\True)/\∀(x:Nat),x<=List.length a.names→if decide ((↑x:Int) < (↑(List.length a.names):Int))=true then ((0:Int)<=(↑x:Int)/\(↑x:Int) < (↑(List.length a.names):Int))/\((0:Int)<=(↑x:Int)/\(↑x:Int) < (↑(List.length a.names):Int))/\if (!decide (List.getD a.names (Int.toNat (↑x:Int)) (dfl Ty.str)=List.getD a.names (Int.toNat (↑x:Int)) (dfl Ty.str)))=true then True/\false=true/\True else inR IntKind.i64 ((↑x:Int)+(1:Int))/\∃(y:Nat),y<=List.length a.names/\List.length a.names - y < List.length a.names - x/\(↑x:Int)+(1:Int)=(↑y:Int)/\a=a/\a=a/\false=false/\a=a/\a=a/\True else (∃(x_1:Nat),x_1<=List.length a.parts/\(0:Int)=(↑x_1:Int)/\(↑x:Int)=(↑x:Int)/\a=a/\a=a/\false=false/\false=false/\a=a/\a=a/\True)/\∀(x_1:Nat),x_1<=List.length a.parts→if decide ((↑x_1:Int) < (↑(List.length a.parts):Int))=true then ((0:Int)<=(↑x_1:Int)/\(↑x_1:Int) < (↑(List.length a.parts):Int))/\((0:Int)<=(↑x_1:Int)/\(↑x_1:Int) < (↑(List.length a.parts):Int))/\(List.getD a.parts (Int.toNat (↑x_1:Int)) (dfl (Ty.st SN.val))=List.getD a.parts (Int.toNat (↑x_1:Int)) (dfl (Ty.st SN.val))/\szV (List.getD a.parts (Int.toNat (↑x_1:Int)) (dfl (Ty.st SN.val)))<=n)/\inR IntKind.i64 ((↑x_1:Int)+(1:Int))/\∃(y:Nat),y<=List.length a.parts/\List.length a.parts - y < List.length a.parts - x_1/\(↑x_1:Int)+(1:Int)=(↑y:Int)/\(↑x:Int)=(↑x:Int)/\a=a/\a=a/\false=false/\false=false/\a=a/\a=a/\True else True/\true=true/\True:=by
 have ln:=ha.val_names.len
 have lp:=ha.val_parts.len
 have hz':=jo a
 iterate 6 refine a8 (fun h=>absurd rfl (ej h)) (fun _=>?_)
 refine ⟨⟨0,Nat.zero_le _,rfl,(by repeat' (first | exact trivial | rfl | apply And.intro))⟩,?_⟩
 intro x hx
 refine a8 (fun h=>?_) (fun h=>?_)
 ·have hx':x < a.names.length:=by have:=Xo h;omega
  exact ⟨⟨by omega,by omega⟩,⟨by omega,by omega⟩,a8 (fun q=>absurd rfl (ej q)) (fun _=>⟨bV hx' ln,x+1,by omega,by omega,by omega,(by repeat' (first | exact trivial | rfl | apply And.intro))⟩)⟩
 ·refine ⟨⟨0,Nat.zero_le _,rfl,(by repeat' (first | exact trivial | rfl | apply And.intro))⟩,?_⟩
  intro y hy
  refine a8 (fun h=>?_) (fun h=>(by repeat' (first | exact trivial | rfl | apply And.intro)))
  have hy':y < a.parts.length:=by have:=Xo h;omega
  have hm:=gq (de a.parts y (dfl (.st .val)) hy')
  simp only [Int.toNat_natCast]
  exact ⟨⟨by omega,by omega⟩,⟨by omega,by omega⟩,⟨by trivial,by omega⟩,bV hy' lp,y+1,by omega,by omega,by omega,(by repeat' (first | exact trivial | rfl | apply And.intro))⟩
end Go.AL.Seat
end
section
open Go Go.AL Go.Proofs Go.Shelf Go.Pd
namespace Go.AL.Seat
variable [Tabs]
def nn:Nat→Bool:=fun _=>false
def cf (k:Nat→Bool) (l:Nat→List (Option Nat)) (p r m:Nat→Bool) (s:Nat→List AV→List (Nat × SObj)→Option Ans):Cfg:=⟨tbl,s,k,l,p,r,m⟩
def a0:An:=⟨[],[],[]⟩
theorem g1 (k:Nat→Bool) (l:Nat→List (Option Nat)) (p r m:Nat→Bool) {s:Nat→List AV→List (Nat × SObj)→Option Ans} (hS:bu Tryz.prog s) (a:An) {f:Nat} {fn:Func} (hf:Tryz.prog.funcs[f]?=some fn)
  {args:List AV} {S:List (Nat × SObj)} {A:Ans} {Q:Prop} (q:Q) (h:fwp (cf k l p r m s) a fn args S A=Q:=by kernel_rfl):ao Tryz.prog f args S A:=zY (C:=cf k l p r m s) mixed tx hS hf q h
theorem g0 {s:Nat→List AV→List (Nat × SObj)→Option Ans} (hS:bu Tryz.prog s) (a:An) {f:Nat} {fn:Func} (hf:Tryz.prog.funcs[f]?=some fn)
  {args:List AV} {S:List (Nat × SObj)} {A:Ans} {Q:Prop} (q:Q) (h:fwp (cf nn (fun _=>[]) nn nn nn s) a fn args S A=Q:=by kernel_rfl):ao Tryz.prog f args S A:=zY (C:=cf nn (fun _=>[]) nn nn nn s) mixed tx hS hf q h
theorem sc {f:Nat} {g:Pat} {l:List (Nat × Pat)} (h:ag Tryz.prog f g) (hl:bu Tryz.prog (dt l)):bu Tryz.prog (dt ((f,g) ::l)):=iC h hl
theorem sn:bu Tryz.prog (dt []):=jI
theorem ee {f:Nat} {fn:Func} (h:Tryz.prog.funcs[f]?=some fn) (e:(fn.body.isNone || (fn.name == "runtime.NumGoroutine"))=false:=by kernel_rfl):aq Tryz.prog f:=aq.mk' h e
variable [SeatLaid] [SeatPow]
theorem lV:ag Tryz.prog 68 (p1 (.int .u8) fun c=>.ret (.bool (ct c))):=
 bO (ee Tryz.func68) fun c _ _=>g0 sn a0 Tryz.func68 (Av c)
theorem lW:ag Tryz.prog 69 (p1 (.int .u8) fun c=>.ret (.bool (cD c))):=
 bO (ee Tryz.func69) fun c _ _=>g0 sn a0 Tryz.func69 (Aw c)
theorem yN:ag Tryz.prog 74 (p1 (.int .u8) fun c=>.ret (.bool (jl c))):=
 bO (ee Tryz.func74) fun c _ _=>g0 sn a0 Tryz.func74 (Ax c)
theorem tJ:ag Tryz.prog 70 (p1 (.int .u8) fun c=>.ret (.bool (dZ c))):=
 bO (ee Tryz.func70) fun c _ _=>g0 (sc lV (sc lW (sc yN sn))) a0 Tryz.func70 (C8 c)
theorem vV:ag Tryz.prog 112 (pf .str 68 fun s=>.ret (.bool (bT ct s))):=
 jY (ee Tryz.func112) fun s hs _=>g0 (sc lV (sc lW (sc tJ sn))) ⟨[(4,fun S0=>⟨Nat,fun k=>k<=s.length/\bT ct s=(s.drop k).all fun c=>dZ (bI c),fun k=>[(22,.int .i64 k)],fun _=>[],fun k=>s.length - k⟩)],[],[]⟩ Tryz.func112 (yx s hs)
theorem vW:ag Tryz.prog 112 (pf .str 69 fun s=>.ret (.bool (bT cD s))):=
 jY (ee Tryz.func112) fun s hs _=>g0 (sc lV (sc lW (sc tJ sn))) ⟨[(4,fun S0=>⟨Nat,fun k=>k<=s.length/\bT cD s=(s.drop k).all fun c=>dZ (bI c),fun k=>[(22,.int .i64 k)],fun _=>[],fun k=>s.length - k⟩)],[],[]⟩ Tryz.func112 (yy s hs)
theorem AT:ag Tryz.prog 71 (p1 .str fun s=>.ret (.bool (cX s))):=
 bO (ee Tryz.func71) fun s _ _=>g0 sn a0 Tryz.func71 (C9 s)
theorem gf:ag Tryz.prog 72 (p1 .str fun s=>.ret (.bool (aw s))):=
 bO (ee Tryz.func72) fun s _ _=>g0 (sc vV (sc AT sn)) a0 Tryz.func72 (Ca s)
theorem jM:ag Tryz.prog 73 (p1 .str fun s=>.ret (.bool (cU s))):=
 bO (ee Tryz.func73) fun s _ _=>g0 (sc vW sn) a0 Tryz.func73 (Ay s)
theorem vX:ag Tryz.prog 62 (p2 (.lst .str) .str fun a v=>.ret (.int .i64 (ba a v 0))):=
 fY (ee Tryz.func62) fun a v ha _ _=>g0 sn ⟨[(2,fun S0=>⟨Nat,fun k=>k<=a.length/\ba a v 0=ba (a.drop k) v k,fun k=>[(8,.int .i64 k)],fun _=>[],fun k=>a.length - k⟩)],[],[]⟩ Tryz.func62 (yz a v ha)
theorem yO:ag Tryz.prog 202 (p1 .str fun s=>.ret (.bool (gx s))):=
 bO (ee Tryz.func202) fun s _ _=>g0 sn a0 Tryz.func202 (Az s)
theorem ky:ag Tryz.prog 145 (p1 (.lst .str) fun a=>⟨none,none,.fn 180 [.ptr 1 0],[(1,.box (.lst .str a none))]⟩):=
 bO (ee Tryz.func145) fun a _ _=>g0 sn a0 Tryz.func145 (yA a)
theorem yP:ag Tryz.prog 201 (p1 (.st .shape) fun s=>⟨some (s.parts.length *16<=140737488355328),none,.bool (cY s),[]⟩):=
 bO (ee Tryz.func201) fun s hs ho=>g0 (sc gf (sc ky (sc (kq) (sc (jm) sn)))) ⟨[(4,fun S0=>⟨Nat,fun k=>k<=s.names.length/\s.names.length=s.parts.length/\cY s=(((s.names.drop k).all aw) && decide s.names.Nodup),fun k=>[(16,.int .i64 k)],fun _=>[],fun k=>s.names.length - k⟩)],[],[]⟩ Tryz.func201 (AA s hs (ho _ rfl))
theorem AU:ag Tryz.prog 170 (p1 (.st .shape) fun s=>⟨some (s.parts.length *16<=140737488355328),none,.bool (aG s),[]⟩):=
 bO (ee Tryz.func170) fun s hs ho=>g0 (sc yP (sc jM (sc gf (sc yO sn)))) a0 Tryz.func170 (Cb s hs (ho _ rfl))
theorem oL:aq Tryz.prog 169:=ee Tryz.func169
theorem pG (n:Nat) (s:AL.Shape) (hs:Wf (.st .shape) s) (hn:sz s<=n+1) (hb:n<=1000000) (hA:ag Tryz.prog 169 (pf (.st .shape) 170 fun s=>⟨some (sz s<=n),none,.bool (allS aG s),[]⟩)):ao Tryz.prog 169 [.st .shape s,.fn 170 []] [] (.ret (.bool (allS aG s))):=
 g0 (sc AU (sc (hA) sn)) ⟨[(4,fun S0=>⟨Nat,fun k=>k<=s.parts.length/\allS aG s=allL aG (s.parts.drop k),fun k=>[(14,.int .i64 k)],fun _=>[],fun k=>s.parts.length - k⟩)],[],[]⟩ Tryz.func169 (vF n s hs hn hb)
theorem tK:∀n:Nat,n<=1000000→ag Tryz.prog 169 (pf (.st .shape) 170 fun s=>⟨some (sz s<=n),none,.bool (allS aG s),[]⟩):=by
 intro n
 induction n with
 | zero=>exact fun _=>jY oL fun a hs ho=>absurd (ho _ rfl) (by have:=ot a;omega)
 | succ n ih=>exact fun hb=>jY oL fun a hs ho=>pG n a hs (ho _ rfl) (by omega) (ih (by omega))
theorem AW:ag Tryz.prog 200 (rF 222):=
 vp (ee Tryz.func200) fun c hc=>g0 sn a0 Tryz.func200 (Cc c hc)
theorem xk:aq Tryz.prog 199:=ee Tryz.func199
theorem vY (n:Nat) (s:AL.Shape) (l c:Int) (hs:Wf (.st .shape) s) (hn:sz s<=n+1) (hc:0<=c/\c<=400/\1<=l/\l<=c+1) (hA:ag Tryz.prog 199 (mY 222 200 n)):ao Tryz.prog 199 [.st .shape s,.int .i64 l,.fn 200 [.ptr 900 0]] [(900,.box (.int .i64 c))] (A3 222 s l c (sz s<=n+1)):=
 g0 (sc AW (sc (hA) sn)) ⟨[(4,fun S0=>⟨Nat × Int,fun x=>x.1<=s.parts.length/\c+1+(szL (s.parts.take x.1):Int)<=400/\deepL (s.parts.drop x.1) (l+1) x.2=deepS s l,fun x=>[(7,.int .i64 x.2),(16,.int .i64 x.1)],fun x=>[(900,.box (.int .i64 (c+1+(szL (s.parts.take x.1):Int))))],fun x=>s.parts.length - x.1⟩)],[],[]⟩ Tryz.func199 (Cd n s l c hs hn hc)
theorem AX:∀n:Nat,ag Tryz.prog 199 (mY 222 200 n):=by
 intro n
 induction n with
 | zero=>exact ou xk fun s l c hs hn hc=>absurd hn (by have:=ot s;omega)
 | succ n ih=>exact ou xk fun s l c hs hn hc=>vY n s l c hs hn hc ih
theorem tL (s:AL.Shape) (hs:Wf (.st .shape) s) :ao Tryz.prog 168 [.st .shape s] [] (.ret (.tup [.int .i64 (if sz s<=400 then (sz s:Int) else 401),.int .i64 (if sz s<=400 then deepS s 1 else 0),.bool (decide (sz s<=400))])):=
 fwpR_sound (C:=⟨tbl,_,fun _=>false,fun _=>[],fun _=>false,fun _=>false,fun _=>false⟩) (ann:=⟨[],[],[]⟩) (annC:=⟨[],[],[]⟩) mixed tx (iC (AX (sz s)) (jI)) Tryz.func168 Tryz.func198 (enters_of Tryz.func198 (by kernel_rfl) rfl) (@Eq.mpr _ _ (by kernel_rfl) (AB s hs))
theorem yQ:ag Tryz.prog 168 (p1 (.st .shape) fun s=>.ret (.tup [.int .i64 (if sz s<=400 then (sz s:Int) else 401),.int .i64 (if sz s<=400 then deepS s 1 else 0),.bool (decide (sz s<=400))])):=
 bO (ee Tryz.func168) fun s hs _=>tL s hs
theorem qk:ag Tryz.prog 129 (p1 (.st .shape) fun s=>.ret (.int .i64 (dx s))):=
 bO (ee Tryz.func129) fun s _ _=>g0 (sc (yQ) (sc (tK 400 (by decide)) sn)) a0 Tryz.func129 (AD s)
theorem ql:aq Tryz.prog 28:=ee Tryz.func28
theorem rO (n:Nat) (t:Trm) (m:Int) (hs:Wf (.st .term) t) (hz:szT t<=n+1) (h0:0<=m) (h1:m<=1000000) (hA:ag Tryz.prog 28 (p2 (.st .term) (.int .i64) fun t m=>⟨some (szT t<=n/\0<=m/\m<=1000000),none,.tup [.int .i64 (countT t m).1,.int .i64 (countT t m).2],[]⟩)):ao Tryz.prog 28 [.st .term t,.int .i64 m] [] (⟨some (szT t<=n+1/\0<=m/\m<=1000000),none,.tup [.int .i64 (countT t m).1,.int .i64 (countT t m).2],[]⟩):=
 g0 (sc (hA) sn) ⟨[(3,fun S0=>⟨Nat × Int × Int,fun y=>y.1<=t.parts.length/\1<=y.2.1/\y.2.1<=m+1/\0<=y.2.2/\y.2.2+1<=y.2.1/\countL (t.parts.drop y.1) m y.2.1 y.2.2=countL t.parts m 1 0,fun y=>[(6,.int .i64 y.2.1),(7,.int .i64 y.2.2),(15,.int .i64 y.1)],fun _=>[],fun y=>t.parts.length - y.1⟩)],[],[]⟩ Tryz.func28 (yB n t m hs hz h0 h1)
theorem oM:∀n:Nat,ag Tryz.prog 28 (p2 (.st .term) (.int .i64) fun t m=>⟨some (szT t<=n/\0<=m/\m<=1000000),none,.tup [.int .i64 (countT t m).1,.int .i64 (countT t m).2],[]⟩)
 | 0=>fY ql fun t m hs _ ho=>absurd (ho _ rfl).1 (by have:=xc t;omega)
 | n+1=>fY ql fun t m hs _ ho=>rO n t m hs (ho _ rfl).1 (ho _ rfl).2.1 (ho _ rfl).2.2 (oM n)
theorem tM:ag Tryz.prog 148 (pcl .str 72 fun x=>⟨none,none,.bool (!aw x),[]⟩):=
 lM (ee Tryz.func148) fun x _ ho=>g0 (sc gf sn) a0 Tryz.func148 (vG x)
theorem tN:ag Tryz.prog 181 (pfc (.lst .str) 148 72 fun l=>⟨none,none,.int .i64 (aT aw l 0),[]⟩):=
 fh (ee Tryz.func181) fun l hl ho=>g0 (sc tM sn) ⟨[(2,fun S0=>⟨Nat,fun k=>k<=l.length/\aT aw (l.drop k) k=aT aw l 0,fun k=>[(8,.int .i64 k)],fun _=>[],fun k=>l.length - k⟩)],[],[]⟩ Tryz.func181 (vH l hl)
theorem tO:ag Tryz.prog 147 (pfc (.lst .str) 148 72 fun l=>⟨none,none,.bool (!l.all aw),[]⟩):=
 fh (ee Tryz.func147) fun l _ ho=>g0 (sc tN sn) a0 Tryz.func147 (vI l)
theorem qm:ag Tryz.prog 103 (pf (.lst .str) 72 fun l=>⟨none,none,.bool (l.all aw),[]⟩):=
 jY (ee Tryz.func103) fun l _ ho=>g0 (sc tO sn) a0 Tryz.func103 (AE l)
theorem yR:ag Tryz.prog 102 (p1 (.lst .str) fun l=>⟨some (l.length *16<=140737488355328),none,.bool (l.all aw && decide l.Nodup),[]⟩):=
 bO (ee Tryz.func102) fun l _ ho=>g0 (sc ky (sc (kq) (sc qm (sc (jm) sn)))) a0 Tryz.func102 (AF l (ho _ rfl))
theorem vZ:aq Tryz.prog 141:=ee Tryz.func141
theorem pH (n:Nat) (x:Shape)  (ho:sz x<=n) (hA:ag Tryz.prog 142 (p1 (.st .shape) fun s=>⟨some (sz s<=n),none,.bool (allS b8 s),[]⟩)):ao Tryz.prog 141 [.st .shape x,.ptr 900 0] [(900,.box (.fn 142 []))] (⟨some (sz x<=n),none,.bool (!(allS b8) x),[]⟩):=
 g0 (sc (hA) sn) a0 Tryz.func141 (vJ n x ho)
theorem tP (n:Nat) (hA:ag Tryz.prog 142 (p1 (.st .shape) fun s=>⟨some (sz s<=n),none,.bool (allS b8 s),[]⟩)):ag Tryz.prog 141 (pcl (.st .shape) 142 fun x=>⟨some (sz x<=n),none,.bool (!(allS b8) x),[]⟩):=
 lM vZ fun x _ ho=>pH n x (ho _ rfl) hA
theorem w6:aq Tryz.prog 176:=ee Tryz.func176
theorem pI (n:Nat) (l:List AL.Shape)  (hl:Wf (.lst (.st .shape)) l) (ho:∀x∈l,sz x<=n) (hA:ag Tryz.prog 142 (p1 (.st .shape) fun s=>⟨some (sz s<=n),none,.bool (allS b8 s),[]⟩)):ao Tryz.prog 176 [.lst (.st .shape) l none,.fn 141 [.ptr 900 0]] [(900,.box (.fn 142 []))] (⟨some (∀x∈l,sz x<=n),none,.int .i64 (aT (allS b8) l 0),[]⟩):=
 g0 (sc ((tP n hA)) sn) ⟨[(2,fun S0=>⟨Nat,fun k=>k<=l.length/\aT (allS b8) (l.drop k) k=aT (allS b8) l 0,fun k=>[(8,.int .i64 k)],fun _=>[],fun k=>l.length - k⟩)],[],[]⟩ Tryz.func176 (vK n l hl ho)
theorem tQ (n:Nat) (hA:ag Tryz.prog 142 (p1 (.st .shape) fun s=>⟨some (sz s<=n),none,.bool (allS b8 s),[]⟩)):ag Tryz.prog 176 (pfc (.lst (.st .shape)) 141 142 fun l=>⟨some (∀x∈l,sz x<=n),none,.int .i64 (aT (allS b8) l 0),[]⟩):=
 fh w6 fun l hl ho=>pI n l hl (ho _ rfl) hA
theorem w7:aq Tryz.prog 140:=ee Tryz.func140
theorem pJ (n:Nat) (l:List AL.Shape)  (ho:∀x∈l,sz x<=n) (hA:ag Tryz.prog 142 (p1 (.st .shape) fun s=>⟨some (sz s<=n),none,.bool (allS b8 s),[]⟩)):ao Tryz.prog 140 [.lst (.st .shape) l none,.fn 141 [.ptr 900 0]] [(900,.box (.fn 142 []))] (⟨some (∀x∈l,sz x<=n),none,.bool (!l.all (allS b8)),[]⟩):=
 g0 (sc ((tQ n hA)) sn) a0 Tryz.func140 (vL n l ho)
theorem tR (n:Nat) (hA:ag Tryz.prog 142 (p1 (.st .shape) fun s=>⟨some (sz s<=n),none,.bool (allS b8 s),[]⟩)):ag Tryz.prog 140 (pfc (.lst (.st .shape)) 141 142 fun l=>⟨some (∀x∈l,sz x<=n),none,.bool (!l.all (allS b8)),[]⟩):=
 fh w7 fun l _ ho=>pJ n l (ho _ rfl) hA
theorem AY:aq Tryz.prog 99:=ee Tryz.func99
theorem tS (n:Nat) (l:List AL.Shape)  (ho:∀x∈l,sz x<=n) (hA:ag Tryz.prog 142 (p1 (.st .shape) fun s=>⟨some (sz s<=n),none,.bool (allS b8 s),[]⟩)):ao Tryz.prog 99 [.lst (.st .shape) l none,.fn 142 []] [] (⟨some (∀x∈l,sz x<=n),none,.bool (l.all (allS b8)),[]⟩):=
 g0 (sc ((tR n hA)) sn) a0 Tryz.func99 (AG n l ho)
theorem yS (n:Nat) (hA:ag Tryz.prog 142 (p1 (.st .shape) fun s=>⟨some (sz s<=n),none,.bool (allS b8 s),[]⟩)):ag Tryz.prog 99 (pf (.lst (.st .shape)) 142 fun l=>⟨some (∀x∈l,sz x<=n),none,.bool (l.all (allS b8)),[]⟩):=
 jY AY fun l _ ho=>tS n l (ho _ rfl) hA
theorem xl:aq Tryz.prog 142:=ee Tryz.func142
theorem w8 (n:Nat) (s:AL.Shape) (ho:sz s<=n+1) (hE:ag Tryz.prog 99 (pf (.lst (.st .shape)) 142 fun l=>⟨some (∀x∈l,sz x<=n),none,.bool (l.all (allS b8)),[]⟩)):ao Tryz.prog 142 [.st .shape s] [] (⟨some (sz s<=n+1),none,.bool (allS b8 s),[]⟩):=
 g0 (sc (hE) sn) a0 Tryz.func142 (Ce n s ho)
theorem tT:∀n:Nat,ag Tryz.prog 142 (p1 (.st .shape) fun s=>⟨some (sz s<=n),none,.bool (allS b8 s),[]⟩)
 | 0=>bO xl fun s _ ho=>absurd (ho _ rfl) (by have:=ot s;omega)
 | n+1=>bO xl fun s _ ho=>w8 n s (ho _ rfl) (yS n (tT n))
theorem w9:ag Tryz.prog 100 (p1 (.st .shape) fun s=>.ret (.bool (decide (dx s=0) && allS b8 s))):=
 bO (ee Tryz.func100) fun s _ _=>g0 (sc qk (sc (tT 400) sn)) a0 Tryz.func100 (yC s)
theorem Cm:ag Tryz.prog 98 (p1 (.st .term) fun t=>.ret (.agg [.int .i64 (t.names.length:Int),.int .i64 (t.vars.length:Int),.int .i64 (t.shapes.length:Int),.int .i64 (t.parts.length:Int)])):=
 bO (ee Tryz.func98) fun t _ _=>g0 sn a0 Tryz.func98 (Dm t)
theorem yT:ag Tryz.prog 101 (p1 .str fun s=>.ret (.bool (oG s))):=
 bO (ee Tryz.func101) fun s hs _=>g0 (sc (yn) sn) ⟨[(2,fun S0=>⟨Nat,fun k=>k<=s.length/\(s.all ec)=(s.drop k).all ec,fun k=>[(8,.int .i64 k)],fun _=>[],fun k=>s.length - k⟩)],[],[]⟩ Tryz.func101 (AH s hs)
theorem rP:ag Tryz.prog 141 (pcl (.st .shape) 100 fun x=>⟨none,none,.bool (!bP x),[]⟩):=
 lM (ee Tryz.func141) fun x _ ho=>g0 (sc w9 sn) a0 Tryz.func141 (tD x)
theorem rQ:ag Tryz.prog 176 (pfc (.lst (.st .shape)) 141 100 fun l=>⟨none,none,.int .i64 (aT bP l 0),[]⟩):=
 fh (ee Tryz.func176) fun l hl ho=>g0 (sc rP sn) ⟨[(2,fun S0=>⟨Nat,fun k=>k<=l.length/\aT bP (l.drop k) k=aT bP l 0,fun k=>[(8,.int .i64 k)],fun _=>[],fun k=>l.length - k⟩)],[],[]⟩ Tryz.func176 (tE l hl)
theorem rR:ag Tryz.prog 140 (pfc (.lst (.st .shape)) 141 100 fun l=>⟨none,none,.bool (!l.all bP),[]⟩):=
 fh (ee Tryz.func140) fun l _ ho=>g0 (sc rQ sn) a0 Tryz.func140 (tF l)
theorem wa:ag Tryz.prog 99 (pf (.lst (.st .shape)) 100 fun l=>⟨none,none,.bool (l.all bP),[]⟩):=
 jY (ee Tryz.func99) fun l _ ho=>g0 (sc rR sn) a0 Tryz.func99 (yD l)
theorem yU:ag Tryz.prog 59 (p1 (.st .term) fun t=>⟨some (t.names.length<=8796093022208),none,.bool (au t),[]⟩):=
 bO (ee Tryz.func59) fun t ht ho=>g0 (sc Cm (sc wa (sc yT (sc gf (sc yR (sc qm (sc jM sn))))))) ⟨[],[],[(2,fun S0=>⟨[(34,.bool (!gp t))],[]⟩)]⟩ Tryz.func59 (AI t ht (ho _ rfl))
theorem tU:aq Tryz.prog 105:=ee Tryz.func105
theorem oN (n:Nat) (x:Trm)  (ho:szT x<=n/\bj x=true) (hA:ag Tryz.prog 29 (p1 (.st .term) fun t=>⟨some (szT t<=n/\bj t=true),none,.bool (allT au t),[]⟩)):ao Tryz.prog 105 [.st .term x,.ptr 900 0] [(900,.box (.fn 29 []))] (⟨some (szT x<=n/\bj x=true),none,.bool (!(allT au) x),[]⟩):=
 g0 (sc (hA) sn) a0 Tryz.func105 (tG n x ho)
theorem rS (n:Nat) (hA:ag Tryz.prog 29 (p1 (.st .term) fun t=>⟨some (szT t<=n/\bj t=true),none,.bool (allT au t),[]⟩)):ag Tryz.prog 105 (pcl (.st .term) 29 fun x=>⟨some (szT x<=n/\bj x=true),none,.bool (!(allT au) x),[]⟩):=
 lM tU fun x _ ho=>oN n x (ho _ rfl) hA
theorem tV:aq Tryz.prog 149:=ee Tryz.func149
theorem oO (n:Nat) (l:List Trm)  (hl:Wf (.lst (.st .term)) l) (ho:∀x∈l,szT x<=n/\bj x=true) (hA:ag Tryz.prog 29 (p1 (.st .term) fun t=>⟨some (szT t<=n/\bj t=true),none,.bool (allT au t),[]⟩)):ao Tryz.prog 149 [.lst (.st .term) l none,.fn 105 [.ptr 900 0]] [(900,.box (.fn 29 []))] (⟨some (∀x∈l,szT x<=n/\bj x=true),none,.int .i64 (aT (allT au) l 0),[]⟩):=
 g0 (sc ((rS n hA)) sn) ⟨[(2,fun S0=>⟨Nat,fun k=>k<=l.length/\aT (allT au) (l.drop k) k=aT (allT au) l 0,fun k=>[(8,.int .i64 k)],fun _=>[],fun k=>l.length - k⟩)],[],[]⟩ Tryz.func149 (tH n l hl ho)
theorem rT (n:Nat) (hA:ag Tryz.prog 29 (p1 (.st .term) fun t=>⟨some (szT t<=n/\bj t=true),none,.bool (allT au t),[]⟩)):ag Tryz.prog 149 (pfc (.lst (.st .term)) 105 29 fun l=>⟨some (∀x∈l,szT x<=n/\bj x=true),none,.int .i64 (aT (allT au) l 0),[]⟩):=
 fh tV fun l hl ho=>oO n l hl (ho _ rfl) hA
theorem tW:aq Tryz.prog 104:=ee Tryz.func104
theorem oP (n:Nat) (l:List Trm)  (ho:∀x∈l,szT x<=n/\bj x=true) (hA:ag Tryz.prog 29 (p1 (.st .term) fun t=>⟨some (szT t<=n/\bj t=true),none,.bool (allT au t),[]⟩)):ao Tryz.prog 104 [.lst (.st .term) l none,.fn 105 [.ptr 900 0]] [(900,.box (.fn 29 []))] (⟨some (∀x∈l,szT x<=n/\bj x=true),none,.bool (!l.all (allT au)),[]⟩):=
 g0 (sc ((rT n hA)) sn) a0 Tryz.func104 (tI n l ho)
theorem rU (n:Nat) (hA:ag Tryz.prog 29 (p1 (.st .term) fun t=>⟨some (szT t<=n/\bj t=true),none,.bool (allT au t),[]⟩)):ag Tryz.prog 104 (pfc (.lst (.st .term)) 105 29 fun l=>⟨some (∀x∈l,szT x<=n/\bj x=true),none,.bool (!l.all (allT au)),[]⟩):=
 fh tW fun l _ ho=>oP n l (ho _ rfl) hA
theorem yV:aq Tryz.prog 60:=ee Tryz.func60
theorem rV (n:Nat) (l:List Trm)  (ho:∀x∈l,szT x<=n/\bj x=true) (hA:ag Tryz.prog 29 (p1 (.st .term) fun t=>⟨some (szT t<=n/\bj t=true),none,.bool (allT au t),[]⟩)):ao Tryz.prog 60 [.lst (.st .term) l none,.fn 29 []] [] (⟨some (∀x∈l,szT x<=n/\bj x=true),none,.bool (l.all (allT au)),[]⟩):=
 g0 (sc ((rU n hA)) sn) a0 Tryz.func60 (yE n l ho)
theorem wb (n:Nat) (hA:ag Tryz.prog 29 (p1 (.st .term) fun t=>⟨some (szT t<=n/\bj t=true),none,.bool (allT au t),[]⟩)):ag Tryz.prog 60 (pf (.lst (.st .term)) 29 fun l=>⟨some (∀x∈l,szT x<=n/\bj x=true),none,.bool (l.all (allT au)),[]⟩):=
 jY yV fun l _ ho=>rV n l (ho _ rfl) hA
theorem qn:aq Tryz.prog 29:=ee Tryz.func29
theorem rW (n:Nat) (t:Trm) (ho:szT t<=n+1/\bj t=true) (hE:ag Tryz.prog 60 (pf (.lst (.st .term)) 29 fun l=>⟨some (∀x∈l,szT x<=n/\bj x=true),none,.bool (l.all (allT au)),[]⟩)):ao Tryz.prog 29 [.st .term t] [] (⟨some (szT t<=n+1/\bj t=true),none,.bool (allT au t),[]⟩):=
 g0 (sc yU (sc (hE) sn)) a0 Tryz.func29 (yF n t ho)
theorem oQ:∀n:Nat,ag Tryz.prog 29 (p1 (.st .term) fun t=>⟨some (szT t<=n/\bj t=true),none,.bool (allT au t),[]⟩)
 | 0=>bO qn fun t _ ho=>absurd (ho _ rfl).1 (by have:=xc t;omega)
 | n+1=>bO qn fun t _ ho=>rW n t (ho _ rfl) (wb n (oQ n))
theorem rX (x:Trm) (ho:bj x=true) :ao Tryz.prog 15 [.st .term x] [] (⟨some (bj x=true),none,.int .i64 (bG x),[]⟩):=
 g0 (sc (oM (szT x)) (sc (oQ (szT x)) sn)) a0 Tryz.func15 (yG x ho)
theorem iG:ag Tryz.prog 15 (p1 (.st .term) fun t=>⟨some (bj t=true),none,.int .i64 (bG t),[]⟩):=
 bO (ee Tryz.func15) fun t _ ho=>rX t (ho _ rfl)
theorem tX:aq Tryz.prog 42:=ee Tryz.func42
theorem tY (n:Nat) (v:Vlu) (l c:Int) (hs:Wf (.st .val) v) (hn:szV v<=n+1) (hc:0<=c/\c<=2000/\1<=l/\l<=c+1) (hA:ag Tryz.prog 42 (l0 96 n)):ao Tryz.prog 42 [.st .val v,.int .i64 l,.ptr 900 0] [(900,.box (.int .i64 c))] (vC 96 v l c (szV v<=n+1)):=
 g0 (sc (hA) sn) ⟨[(6,fun S0=>⟨Nat × Int,fun x=>x.1<=v.parts.length/\c+1+(szVL (v.parts.take x.1):Int)<=2000/\deepVL (v.parts.drop x.1) (l+1) x.2=deepV v l,fun x=>[(7,.int .i64 x.2),(25,.int .i64 x.1)],fun x=>[(900,.box (.int .i64 (c+1+(szVL (v.parts.take x.1):Int))))],fun x=>v.parts.length - x.1⟩)],[],[]⟩ Tryz.func42 (AJ n v l c hs hn hc)
theorem ka:∀n:Nat,ag Tryz.prog 42 (l0 96 n)
 | 0=>mE tX fun v l c hs hn hc=>absurd hn (by have:=fx v;omega)
 | n+1=>mE tX fun v l c hs hn hc=>tY n v l c hs hn hc (ka n)
theorem rY (v:Vlu) (hs:Wf (.st .val) v) :ao Tryz.prog 23 [.st .val v] [] (.ret (.tup [.int .i64 (if szV v<=2000 then (szV v:Int) else 2001),.int .i64 (if szV v<=2000 then deepV v 1 else 0),.bool (decide (szV v<=2000))])):=
 fwpR_sound (C:=⟨tbl,_,fun _=>false,fun _=>[],fun _=>false,fun _=>false,fun _=>false⟩) (ann:=⟨[],[],[]⟩) (annC:=⟨[],[],[]⟩) mixed tx (iC (ka (szV v)) (jI)) Tryz.func23 Tryz.func41 (enters_of Tryz.func41 (by kernel_rfl) rfl) (@Eq.mpr _ _ (by kernel_rfl) (yH v hs))
theorem oR:ag Tryz.prog 23 (p1 (.st .val) fun v=>.ret (.tup [.int .i64 (if szV v<=2000 then (szV v:Int) else 2001),.int .i64 (if szV v<=2000 then deepV v 1 else 0),.bool (decide (szV v<=2000))])):=
 bO (ee Tryz.func23) fun v hs _=>rY v hs
theorem tZ:ag Tryz.prog 186 (pcl .str 72 fun x=>⟨none,none,.bool (!aw x),[]⟩):=
 lM (ee Tryz.func186) fun x _ ho=>g0 (sc gf sn) a0 Tryz.func186 (vM x)
theorem u6:ag Tryz.prog 181 (pfc (.lst .str) 186 72 fun l=>⟨none,none,.int .i64 (aT aw l 0),[]⟩):=
 fh (ee Tryz.func181) fun l hl ho=>g0 (sc tZ sn) ⟨[(2,fun S0=>⟨Nat,fun k=>k<=l.length/\aT aw (l.drop k) k=aT aw l 0,fun k=>[(8,.int .i64 k)],fun _=>[],fun k=>l.length - k⟩)],[],[]⟩ Tryz.func181 (vN l hl)
theorem u7:ag Tryz.prog 147 (pfc (.lst .str) 186 72 fun l=>⟨none,none,.bool (!l.all aw),[]⟩):=
 fh (ee Tryz.func147) fun l _ ho=>g0 (sc u6 sn) a0 Tryz.func147 (vO l)
theorem yW:ag Tryz.prog 151 (pf (.lst .str) 72 fun l=>⟨none,none,.bool (l.all aw),[]⟩):=
 jY (ee Tryz.func151) fun l _ ho=>g0 (sc u7 sn) a0 Tryz.func151 (AK l)
theorem wc:ag Tryz.prog 108 (p1 (.lst .str) fun l=>⟨some (l.length *16<=140737488355328),none,.bool (fj l),[]⟩):=
 bO (ee Tryz.func108) fun l _ ho=>g0 (sc ky (sc (kq) (sc yW (sc (jm) sn)))) a0 Tryz.func108 (yI l (ho _ rfl))
theorem yX:ag Tryz.prog 63 (p1 (.st .val) fun v=>⟨some (v.names.length *16<=140737488355328),none,.bool (ai v),[]⟩):=
 bO (ee Tryz.func63) fun v hs ho=>g0 (sc wc (sc gf (sc jM sn))) a0 Tryz.func63 (AM v hs (ho _ rfl))
theorem we:aq Tryz.prog 110:=ee Tryz.func110
theorem pK (n:Nat) (x:Vlu)  (ho:szV x<=n/\bD x=true) (hA:ag Tryz.prog 39 (p1 (.st .val) fun v=>⟨some (szV v<=n/\bD v=true),none,.bool (allV ai v),[]⟩)):ao Tryz.prog 110 [.st .val x,.ptr 900 0] [(900,.box (.fn 39 []))] (⟨some (szV x<=n/\bD x=true),none,.bool (!(allV ai) x),[]⟩):=
 g0 (sc (hA) sn) a0 Tryz.func110 (vP n x ho)
theorem u9 (n:Nat) (hA:ag Tryz.prog 39 (p1 (.st .val) fun v=>⟨some (szV v<=n/\bD v=true),none,.bool (allV ai v),[]⟩)):ag Tryz.prog 110 (pcl (.st .val) 39 fun x=>⟨some (szV x<=n/\bD x=true),none,.bool (!(allV ai) x),[]⟩):=
 lM we fun x _ ho=>pK n x (ho _ rfl) hA
theorem wg:aq Tryz.prog 152:=ee Tryz.func152
theorem pL (n:Nat) (l:List Vlu)  (hl:Wf (.lst (.st .val)) l) (ho:∀x∈l,szV x<=n/\bD x=true) (hA:ag Tryz.prog 39 (p1 (.st .val) fun v=>⟨some (szV v<=n/\bD v=true),none,.bool (allV ai v),[]⟩)):ao Tryz.prog 152 [.lst (.st .val) l none,.fn 110 [.ptr 900 0]] [(900,.box (.fn 39 []))] (⟨some (∀x∈l,szV x<=n/\bD x=true),none,.int .i64 (aT (allV ai) l 0),[]⟩):=
 g0 (sc ((u9 n hA)) sn) ⟨[(2,fun S0=>⟨Nat,fun k=>k<=l.length/\aT (allV ai) (l.drop k) k=aT (allV ai) l 0,fun k=>[(8,.int .i64 k)],fun _=>[],fun k=>l.length - k⟩)],[],[]⟩ Tryz.func152 (vQ n l hl ho)
theorem ua (n:Nat) (hA:ag Tryz.prog 39 (p1 (.st .val) fun v=>⟨some (szV v<=n/\bD v=true),none,.bool (allV ai v),[]⟩)):ag Tryz.prog 152 (pfc (.lst (.st .val)) 110 39 fun l=>⟨some (∀x∈l,szV x<=n/\bD x=true),none,.int .i64 (aT (allV ai) l 0),[]⟩):=
 fh wg fun l hl ho=>pL n l hl (ho _ rfl) hA
theorem wh:aq Tryz.prog 109:=ee Tryz.func109
theorem pM (n:Nat) (l:List Vlu)  (ho:∀x∈l,szV x<=n/\bD x=true) (hA:ag Tryz.prog 39 (p1 (.st .val) fun v=>⟨some (szV v<=n/\bD v=true),none,.bool (allV ai v),[]⟩)):ao Tryz.prog 109 [.lst (.st .val) l none,.fn 110 [.ptr 900 0]] [(900,.box (.fn 39 []))] (⟨some (∀x∈l,szV x<=n/\bD x=true),none,.bool (!l.all (allV ai)),[]⟩):=
 g0 (sc ((ua n hA)) sn) a0 Tryz.func109 (vR n l ho)
theorem ub (n:Nat) (hA:ag Tryz.prog 39 (p1 (.st .val) fun v=>⟨some (szV v<=n/\bD v=true),none,.bool (allV ai v),[]⟩)):ag Tryz.prog 109 (pfc (.lst (.st .val)) 110 39 fun l=>⟨some (∀x∈l,szV x<=n/\bD x=true),none,.bool (!l.all (allV ai)),[]⟩):=
 fh wh fun l _ ho=>pM n l (ho _ rfl) hA
theorem AZ:aq Tryz.prog 64:=ee Tryz.func64
theorem uc (n:Nat) (l:List Vlu)  (ho:∀x∈l,szV x<=n/\bD x=true) (hA:ag Tryz.prog 39 (p1 (.st .val) fun v=>⟨some (szV v<=n/\bD v=true),none,.bool (allV ai v),[]⟩)):ao Tryz.prog 64 [.lst (.st .val) l none,.fn 39 []] [] (⟨some (∀x∈l,szV x<=n/\bD x=true),none,.bool (l.all (allV ai)),[]⟩):=
 g0 (sc ((ub n hA)) sn) a0 Tryz.func64 (AN n l ho)
theorem yY (n:Nat) (hA:ag Tryz.prog 39 (p1 (.st .val) fun v=>⟨some (szV v<=n/\bD v=true),none,.bool (allV ai v),[]⟩)):ag Tryz.prog 64 (pf (.lst (.st .val)) 39 fun l=>⟨some (∀x∈l,szV x<=n/\bD x=true),none,.bool (l.all (allV ai)),[]⟩):=
 jY AZ fun l _ ho=>uc n l (ho _ rfl) hA
theorem oS:aq Tryz.prog 39:=ee Tryz.func39
theorem pN (n:Nat) (v:Vlu) (hs:Wf (.st .val) v) (ho:szV v<=n+1/\bD v=true) (hE:ag Tryz.prog 64 (pf (.lst (.st .val)) 39 fun l=>⟨some (∀x∈l,szV x<=n/\bD x=true),none,.bool (l.all (allV ai)),[]⟩)):ao Tryz.prog 39 [.st .val v] [] (⟨some (szV v<=n+1/\bD v=true),none,.bool (allV ai v),[]⟩):=
 g0 (sc yX (sc (hE) sn)) a0 Tryz.func39 (vS n v hs ho)
theorem iM:∀n:Nat,ag Tryz.prog 39 (p1 (.st .val) fun v=>⟨some (szV v<=n/\bD v=true),none,.bool (allV ai v),[]⟩)
 | 0=>bO oS fun v _ ho=>absurd (ho _ rfl).1 (by have:=fx v;omega)
 | n+1=>bO oS fun v hs ho=>pN n v hs (ho _ rfl) (yY n (iM n))
theorem oT:ag Tryz.prog 21 (p1 (.st .val) fun v=>⟨some (bD v=true),none,.int .i64 (fb v),[]⟩):=
 bO (ee Tryz.func21) fun v hs ho=>g0 (sc oR (sc (iM 2000) sn)) a0 Tryz.func21 (yJ v hs (ho _ rfl))
theorem l5:ag Tryz.prog 37 (p4 (.pt .scope) .str .str (.st .thing) fun s o n w=>.ret (.pt .scope (cA s o n w))):=
 DO (ee Tryz.func37) fun s o n w hs ho hn _=>g1 nn (fun _=>[]) nn (fun d=>Nat.beq d 14) nn sn a0 Tryz.func37 (Cf s o n w hs ho hn)
theorem B0:ag Tryz.prog 34 (p3 (.pt .scope) .str .str fun s o n=>.ret (.pt .scope (findF s o n))):=
 zX (ee Tryz.func34) fun s o n hs ho hn _=>g0 sn ⟨[(1,fun S0=>⟨Option Scp,fun x=>findF x o n=findF s o n,fun x=>[(0,.pt .scope x)],fun _=>[],fun x=>rL x⟩)],[],[]⟩ Tryz.func34 (Cg s o n hs ho hn)
theorem qo:ag Tryz.prog 33 (p1 .bool fun b=>.ret (.st .thing (ku b))):=
 bO (ee Tryz.func33) fun b _ _=>g0 sn a0 Tryz.func33 (AO b)
theorem gV:ag Tryz.prog 32 (p2 (.int .i64) (.int .i64) fun e a=>⟨none,some (true,.iface 77 (.agg [.int .i64 e,.int .i64 a]),[]),.tup [],[]⟩):=
 fY (ee Tryz.func32) fun e a _ _ _=>g0 sn a0 Tryz.func32 (Ch e a)
theorem B1:ag Tryz.prog 106 (p3 (.int .i64) (.lst (.st .thing)) (.int .i64) fun k l a=>⟨none,some (!dh k l,.iface 77 (.agg [.int .i64 291,.int .i64 a]),[]),.tup [],[]⟩):=
 zX (ee Tryz.func106) fun k l a _ hl _ _=>g0 (sc gV sn) ⟨[(1,fun S0=>⟨Nat,fun i=>i<=l.length/\dh k (l.take i)=true,fun i=>[(10,.int .i64 i)],fun _=>[],fun i=>l.length - i⟩)],[],[]⟩ Tryz.func106 (Ci k l a hl)
theorem yZ:ag Tryz.prog 61 (p3 .str (.lst (.st .thing)) (.int .i64) fun nm l a=>bsA 77 ((ah nm l a).isSome=true) (ab (ah nm l a))):=
 zX (ee Tryz.func61) fun nm l a hnm hl ha ho=>g1 nn (fun _=>[]) nn (fun d=>Nat.beq d 32 || Nat.beq d 98 || Nat.beq d 104 || Nat.beq d 110) nn (sc gV (sc B1 (sc qo (sc (pC) sn)))) a0 Tryz.func61 (AP nm l a hnm hl ha (ho _ rfl))
theorem Cn:aq Tryz.prog 36:=ee Tryz.func36
theorem wi (n:Nat) (l:List Trm) (p:Plc) (st mo:Int) (hl:Wf (.lst (.st .term)) l) (hp:Wf (.st .plc) p) (ho:(an (fun x=>a7 mo n x p) l st).isSome=true) (hE:ag Tryz.prog 19 (pE (.pt .term) fun t p st mo=>kx 77 mo (t.isSome=true/\(a7 mo n (t.getD default) p st).isSome=true) (ab (a7 mo n (t.getD default) p st)))):ao Tryz.prog 36 [.ptr 900 0,.lst (.st .term) l none,.st .plc p] (yt st mo) (evLA 77 mo ((an (fun x=>a7 mo n x p) l st).isSome=true) (bW (an (fun x=>a7 mo n x p) l st))):=
 g0 (sc (hE) sn) ⟨[(3,fun S0=>⟨Nat × List Thg × Int,fun x=>x.1<=l.length/\x.2.1.length=x.1/\lQ (fun y=>a7 mo n y p) (l.drop x.1) x.2.1 x.2.2=an (fun x=>a7 mo n x p) l st,fun x=>[(14,.int .i64 x.1),(7,.lst (.st .thing) x.2.1 (some 11))],fun x=>[(11,.tail (.st .thing) x.2.1.length),(900,.box (.agg [.int .i64 x.2.2,.int .i64 mo]))],fun x=>l.length - x.1⟩)],[],[]⟩ Tryz.func36 (Cj n l p st mo hl hp ho)
theorem B2 (n:Nat) (hE:ag Tryz.prog 19 (pE (.pt .term) fun t p st mo=>kx 77 mo (t.isSome=true/\(a7 mo n (t.getD default) p st).isSome=true) (ab (a7 mo n (t.getD default) p st)))):ag Tryz.prog 36 (pE (.lst (.st .term)) fun l p st mo=>evLA 77 mo ((an (fun x=>a7 mo n x p) l st).isSome=true) (bW (an (fun x=>a7 mo n x p) l st))):=
 xh Cn fun l p st mo hl hp ho=>wi n l p st mo hl hp (ho _ rfl) hE
theorem B3:aq Tryz.prog 35:=ee Tryz.func35
theorem ud (n:Nat) (t:Trm) (l:List Thg) (st mo:Int) (ht:Wf (.st .term) t) (hl:Wf (.lst (.st .thing)) l) (ho:(bw (a7 mo n) mo t.pos l st).isSome=true) (hE:ag Tryz.prog 19 (pE (.pt .term) fun t p st mo=>kx 77 mo (t.isSome=true/\(a7 mo n (t.getD default) p st).isSome=true) (ab (a7 mo n (t.getD default) p st)))):ao Tryz.prog 35 [.ptr 900 0,.pt .term (some t),.lst (.st .thing) l none] (yt st mo) (kx 77 mo ((bw (a7 mo n) mo t.pos l st).isSome=true) (ab (bw (a7 mo n) mo t.pos l st))):=
 g0 (sc (hE) (sc gV (sc yZ (sc (l5) sn)))) ⟨[(11,fun S0=>⟨Nat × Option Scp,fun x=>x.1<=(fcn l).names.length/\dq x.2 ((fcn l).names.drop x.1) (l.drop (x.1+1))=dq (fcn l).scp (fcn l).names (l.drop 1),fun x=>[(78,.int .i64 x.1)],fun x=>[(8,.box (.agg [.pt .scope x.2,.str (fcn l).self]))],fun x=>(fcn l).names.length - x.1⟩)],[],[]⟩ Tryz.func35 (AQ n t l st mo ht hl ho)
theorem z6 (n:Nat) (hE:ag Tryz.prog 19 (pE (.pt .term) fun t p st mo=>kx 77 mo (t.isSome=true/\(a7 mo n (t.getD default) p st).isSome=true) (ab (a7 mo n (t.getD default) p st)))):ag Tryz.prog 35 (pEc fun t l st mo=>kx 77 mo ((bw (a7 mo n) mo t.pos l st).isSome=true) (ab (bw (a7 mo n) mo t.pos l st))):=
 Db B3 fun t l st mo ht hl ho=>ud n t l st mo ht hl (ho _ rfl) hE
theorem wj:aq Tryz.prog 38:=ee Tryz.func38
theorem pO (n:Nat) (t:Trm) (p:Plc) (st mo:Int) (ht:Wf (.st .term) t) (hp:Wf (.st .plc) p) (ho:(al (a7 mo n) t p st).isSome=true) (hE:ag Tryz.prog 19 (pE (.pt .term) fun t p st mo=>kx 77 mo (t.isSome=true/\(a7 mo n (t.getD default) p st).isSome=true) (ab (a7 mo n (t.getD default) p st)))):ao Tryz.prog 38 [.ptr 900 0,.pt .term (some t),.st .plc p] (yt st mo) (kx 77 mo ((al (a7 mo n) t p st).isSome=true) (ab (al (a7 mo n) t p st))):=
 g0 (sc (hE) (sc gV (sc (vX) (sc (l5) sn)))) a0 Tryz.func38 (vT n t p st mo ht hp ho)
theorem ue (n:Nat) (hE:ag Tryz.prog 19 (pE (.pt .term) fun t p st mo=>kx 77 mo (t.isSome=true/\(a7 mo n (t.getD default) p st).isSome=true) (ab (a7 mo n (t.getD default) p st)))):ag Tryz.prog 38 (pE (.pt .term) fun t p st mo=>kx 77 mo (t.isSome=true/\(al (a7 mo n) (t.getD default) p st).isSome=true) (ab (al (a7 mo n) (t.getD default) p st))):=
 xh wj fun t p st mo ht hp ho=>by
  obtain ⟨h1,h2⟩:=ho _ rfl
  obtain ⟨x,rfl⟩:=Option.isSome_iff_exists.1 h1
  exact pO n x p st mo (Wf.pt ht) hp h2 hE
theorem uf:aq Tryz.prog 19:=ee Tryz.func19
theorem ug (n:Nat) (t:Trm) (p:Plc) (st mo:Int) (ht:Wf (.st .term) t) (hp:Wf (.st .plc) p) (ho:(a7 mo (n+1) t p st).isSome=true) (hE:ag Tryz.prog 19 (pE (.pt .term) fun t p st mo=>kx 77 mo (t.isSome=true/\(a7 mo n (t.getD default) p st).isSome=true) (ab (a7 mo n (t.getD default) p st)))):ao Tryz.prog 19 [.ptr 900 0,.pt .term (some t),.st .plc p] (yt st mo) (kx 77 mo ((a7 mo (n+1) t p st).isSome=true) (ab (a7 mo (n+1) t p st))):=
 g1 nn (fun _=>[]) nn (fun d=>Nat.beq d 78) nn (sc (hE) (sc gV (sc qo (sc B0 (sc (l5) (sc (B2 n hE) (sc (z6 n hE) (sc (ue n hE) sn)))))))) a0 Tryz.func19 (AR n t p st mo ht hp ho)
theorem lX:∀n:Nat,ag Tryz.prog 19 (pE (.pt .term) fun t p st mo=>kx 77 mo (t.isSome=true/\(a7 mo n (t.getD default) p st).isSome=true) (ab (a7 mo n (t.getD default) p st)))
 | 0=>xh uf fun t p st mo ht hp ho=>absurd (ho _ rfl).2 (by show ¬(none:Option Ev).isSome=true;decide)
 | n+1=>xh uf fun t p st mo ht hp ho=>by
  obtain ⟨h1,h2⟩:=ho _ rfl
  obtain ⟨x,rfl⟩:=Option.isSome_iff_exists.1 h1
  exact ug n x p st mo (Wf.pt ht) hp h2 (lX n)
theorem wk:ag Tryz.prog 20 (p0 (.ret (.pt .scope ck))):=
 CI (ee Tryz.func20) (g1 nn (fun _=>[]) nn (fun d=>Nat.beq d 16 || Nat.beq d 30) nn (sc (l5) sn) ⟨[(3,fun S0=>⟨Nat,fun k=>k<=7,fun k=>[(8,.int .i64 k),(1,.pt .scope ((two.take k).foldl (du 2) none))],fun _=>[],fun k=>7 - k⟩),(8,fun S0=>⟨Nat,fun k=>k<=3,fun k=>[(22,.int .i64 k),(1,.pt .scope ((jP.take k).foldl (du 1) (two.foldl (du 2) none)))],fun _=>[],fun k=>3 - k⟩)],[],[]⟩ Tryz.func20 (yK))
theorem xm:aq Tryz.prog 31:=ee Tryz.func31
theorem wm (n:Nat) (x:Thg) (r:Int) (hx:Wf (.st .thing) x) (ho:(aP (n+1) x r).isSome=true) (hA:ag Tryz.prog 31 (jL n)):ao Tryz.prog 31 [.st .thing x,.ptr 900 0] [(900,.box (.int .i64 r))] (Ao ((aP (n+1) x r).isSome=true) (cM (aP (n+1) x r))):=
 g0 (sc (qj) (sc (hA) sn)) ⟨[(8,fun S0=>⟨Nat × List Vlu × Int,fun y=>y.1<=x.parts.length/\y.2.1.length=y.1/\fe (aP n) (x.parts.drop y.1) y.2.1 y.2.2=fe (aP n) x.parts [] (r - 1),fun y=>[(45,.int .i64 y.1)],fun y=>[(6,.box (.agg [.int .i64 x.kind,.int .i64 (fnN x),.str x.pkg,.str x.text,.lst .str x.names none,.lst (.st .val) y.2.1 (some 701)])),(701,.tail (.st .val) y.2.1.length),(900,.box (.int .i64 y.2.2))],fun y=>x.parts.length - y.1⟩)],[],[(100007,fun S0=>⟨[],[(6,.box (.agg [.int .i64 x.kind,.int .i64 (fnN x),.str x.pkg,.str x.text,.lst .str x.names none,.nils]))]⟩)]⟩ Tryz.func31 (Ck n x r hx ho)
theorem oU:∀n:Nat,ag Tryz.prog 31 (jL n)
 | 0=>oK xm fun x r hx ho=>by cases ho
 | n+1=>oK xm fun x r hx ho=>wm n x r hx ho (oU n)
theorem z7:aq Tryz.prog 18:=ee Tryz.func18
theorem rZ (m:Nat) (x:Thg) (a:Int) (hx:Wf (.st .thing) x) (ho:(bU m x a).isSome=true) (hA:ag Tryz.prog 31 (jL m)):ao Tryz.prog 18 [.st .thing x,.int .i64 a] [] (swA 77 ((bU m x a).isSome=true) (js (bU m x a))):=
 g0 (sc (hA) (sc (oT) (sc gV sn))) a0 Tryz.func18 (yL m x a hx ho)
theorem oV (m:Nat) (hA:ag Tryz.prog 31 (jL m)):ag Tryz.prog 18 (p2 (.st .thing) (.int .i64) fun x a=>swA 77 ((bU m x a).isSome=true) (js (bU m x a))):=
 fY z7 fun x a hx _ ho=>rZ m x a hx (ho _ rfl) hA
theorem Co:aq Tryz.prog 17:=ee Tryz.func17
theorem wo (n m:Nat) (t:Trm) (mo:Int) (ht:Wf (.st .term) t) (ho:(bE n m t mo).isSome=true) (hE:ag Tryz.prog 19 (pE (.pt .term) fun t p st mo=>kx 77 mo (t.isSome=true/\(a7 mo n (t.getD default) p st).isSome=true) (ab (a7 mo n (t.getD default) p st)))) (hS:ag Tryz.prog 18 (p2 (.st .thing) (.int .i64) fun x a=>swA 77 ((bU m x a).isSome=true) (js (bU m x a)))):ao Tryz.prog 17 [.ptr 900 0,.cptr (.st .term t),.ptr 901 0] (rnS 0 mo) (Df 77 mo ((bE n m t mo).isSome=true) (aR (bE n m t mo))):=
 g0 (sc (wk) (sc (hE) (sc (hS) sn))) a0 Tryz.func17 (Cl n m t mo ht ho)
theorem uh (n m:Nat) (hE:ag Tryz.prog 19 (pE (.pt .term) fun t p st mo=>kx 77 mo (t.isSome=true/\(a7 mo n (t.getD default) p st).isSome=true) (ab (a7 mo n (t.getD default) p st)))) (hS:ag Tryz.prog 18 (p2 (.st .thing) (.int .i64) fun x a=>swA 77 ((bU m x a).isSome=true) (js (bU m x a)))):ag Tryz.prog 17 (tw 77 n m):=
 Ap Co fun t mo ht ho=>wo n m t mo ht ho hE hS
theorem z8:aq Tryz.prog 16:=ee Tryz.func16
theorem s5 (n m:Nat) (t:Trm) (mo:Int) (ht:Wf (.st .term) t) (ho:(bE n m t mo).isSome=true) (hA:ag Tryz.prog 17 (tw 77 n m)):ao Tryz.prog 16 [.fn 17 [.ptr 900 0,.cptr (.st .term t),.ptr 901 0]] (rnS 0 mo) (Dg mo ((bE n m t mo).isSome=true) (aR (bE n m t mo))):=
 fwpR_sound (C:=⟨tbl,_,fun _=>false,fun _=>[],fun _=>false,fun _=>false,fun _=>false⟩) (ann:=⟨[],[],[]⟩) (annC:=⟨[],[],[]⟩) mixed tx (iC (hA) (jI)) Tryz.func16 Tryz.func30 (enters_of Tryz.func30 (by kernel_rfl) rfl) (@Eq.mpr _ _ (by kernel_rfl) (yM n m t mo ht ho))
theorem oW (n m:Nat) (hA:ag Tryz.prog 17 (tw 77 n m)):ag Tryz.prog 16 (Aq 17 n m):=
 C3 z8 fun t mo ht ho=>s5 n m t mo ht ho hA
theorem Dp:aq Tryz.prog 8:=ee Tryz.func8
theorem qp (n m:Nat) (t:Trm) (k:Int) (ht:Wf (.st .term) t) (hk:Wf (.int .i64) k) (hf:bj t=true) (ho:(bk n m t k).isSome=true) (hC:ag Tryz.prog 16 (Aq 17 n m)):ao Tryz.prog 8 [.st .term t,.int .i64 k] [] (⟨some (bj t=true/\(bk n m t k).isSome=true),none,.tup [.st .val (aR (bk n m t k)).v,.int .i64 (aR (bk n m t k)).st,.st .fault (aR (bk n m t k)).f],[]⟩):=
 g0 (sc (iG) (sc (hC) sn)) ⟨[],[(8,[2])],[]⟩ Tryz.func8 (Dn n m t k ht hk hf ho)
theorem Cp (n m:Nat) (hC:ag Tryz.prog 16 (Aq 17 n m)):ag Tryz.prog 8 (p2 (.st .term) (.int .i64) fun t k=>⟨some (bj t=true/\(bk n m t k).isSome=true),none,.tup [.st .val (aR (bk n m t k)).v,.int .i64 (aR (bk n m t k)).st,.st .fault (aR (bk n m t k)).f],[]⟩):=
 fY Dp fun t k ht hk ho=>qp n m t k ht hk (ho _ rfl).1 (ho _ rfl).2 hC
theorem oX:aq Tryz.prog 9:=ee Tryz.func9
theorem pP (n:Nat) (a:Vlu) (ha:Wf (.st .val) a) (hz:szV a<=n+1) (hA:ag Tryz.prog 9 (p2 (.st .val) (.st .val) fun a b=>⟨some (a=b/\szV a<=n),none,.bool true,[]⟩)):ao Tryz.prog 9 [.st .val a,.st .val a] [] (.ret (.bool true)):=
 g0 (sc (hA) sn) ⟨[(4,fun S0=>⟨Nat,fun k=>k<=a.names.length,fun k=>[(5,.int .i64 k)],fun _=>[],fun k=>a.names.length - k⟩),(9,fun S0=>⟨Nat,fun k=>k<=a.parts.length,fun k=>[(6,.int .i64 k)],fun _=>[],fun k=>a.parts.length - k⟩)],[],[]⟩ Tryz.func9 (vU n a ha hz)
theorem iN:∀n:Nat,ag Tryz.prog 9 (p2 (.st .val) (.st .val) fun a b=>⟨some (a=b/\szV a<=n),none,.bool true,[]⟩)
 | 0=>fY oX fun a b _ _ ho=>absurd (ho _ rfl).2 (by have:=fx a;omega)
 | n+1=>fY oX fun a b ha _ ho=>by
  obtain ⟨rfl,h⟩:=ho _ rfl
  exact pP n a ha h (iN n)
end Go.AL.Seat
end
noncomputable section
namespace Go.AL
def evN {α:Type} (n:Nat) (k:Nat→α):α:=match n with | 0=>k 0 | m+1=>k (m+1)
def evI {α:Type} (n:Int) (k:Int→α):α:=match n with | .ofNat m=>evN m fun m=>k (.ofNat m) | .negSucc m=>evN m fun m=>k (.negSucc m)
def evL {α β:Type}:List β→(List β→α)→α
 | [],k=>k []
 | a ::r,k=>evL r fun r=>k (a ::r)
theorem ed {α:Type} (n:Nat) (k:Nat→α):evN n k=k n:=by cases n <;> rfl
theorem wq {α:Type} (n:Int) (k:Int→α):evI n k=k n:=by
 cases n <;> (unfold evI;exact ed _ _)
theorem dH {α β:Type}:∀(l:List β) (k:List β→α),evL l k=k l
 | [],_=>rfl
 | a ::r,k=>by rw [evL,dH r]
mutual
def evV {α:Type}:AV→(AV→α)→α
 | .int κ n,k=>evI n fun n=>k (.int κ n)
 | .bool true,k=>k (.bool true)
 | .bool false,k=>k (.bool false)
 | .str s,k=>evL s fun s=>k (.str s)
 | .lst τ xs none,k=>evL xs fun xs=>k (.lst τ xs none)
 | .lst τ xs (some i),k=>evL xs fun xs=>k (.lst τ xs (some i))
 | .row τ xs,k=>evL xs fun xs=>k (.row τ xs)
 | .arr i n w,k=>evN n fun n=>k (.arr i n w)
 | .aptr i n w o,k=>evN n fun n=>evN o fun o=>k (.aptr i n w o)
 | .cptr c,k=>evV c fun c=>k (.cptr c)
 | .agg cs,k=>evVs cs fun cs=>k (.agg cs)
 | .tup cs,k=>evVs cs fun cs=>k (.tup cs)
 | .fn f cs,k=>evVs cs fun cs=>k (.fn f cs)
 | .iface t a,k=>evV a fun a=>k (.iface t a)
 | .lstp τ xs i,k=>evL xs fun xs=>k (.lstp τ xs i)
 | .undef,k=>k .undef
 | .nils,k=>k .nils
 | .ptr i o,k=>k (.ptr i o)
 | .nilp,k=>k .nilp
 | .st n x,k=>k (.st n x)
 | .map i,k=>k (.map i)
 | .bptr i,k=>k (.bptr i)
 | .nilif,k=>k .nilif
 | .nilm,k=>k .nilm
 | .pt n x,k=>k (.pt n x)
 | .tptr τ n i,k=>k (.tptr τ n i)
def evVs {α:Type}:List AV→(List AV→α)→α
 | [],k=>k []
 | a ::r,k=>evV a fun a=>evVs r fun r=>k (a ::r)
end
mutual
theorem evV_eq {α:Type}:∀(a:AV) (k:AV→α),evV a k=k a
 | .int κ n,k=>by rw [evV,wq]
 | .bool true,k=>rfl
 | .bool false,k=>rfl
 | .str s,k=>by rw [evV,dH]
 | .lst τ xs none,k=>by rw [evV,dH]
 | .lst τ xs (some i),k=>by rw [evV,dH]
 | .row τ xs,k=>by rw [evV,dH]
 | .arr i n w,k=>by rw [evV,ed]
 | .aptr i n w o,k=>by rw [evV,ed,ed]
 | .cptr c,k=>by rw [evV,evV_eq c]
 | .agg cs,k=>by rw [evV,evVs_eq cs]
 | .tup cs,k=>by rw [evV,evVs_eq cs]
 | .fn f cs,k=>by rw [evV,evVs_eq cs]
 | .iface t a,k=>by rw [evV,evV_eq a]
 | .lstp τ xs i,k=>by rw [evV,dH]
 | .undef,k=>rfl
 | .nils,k=>rfl
 | .ptr _ _,k=>rfl
 | .nilp,k=>rfl
 | .st _ _,k=>rfl
 | .map _,k=>rfl
 | .bptr _,k=>rfl
 | .nilif,k=>rfl
 | .nilm,k=>rfl
 | .pt _ _,k=>rfl
 | .tptr _ _ _,k=>rfl
theorem evVs_eq {α:Type}:∀(l:List AV) (k:List AV→α),evVs l k=k l
 | [],k=>rfl
 | a ::r,k=>by rw [evVs,evV_eq a,evVs_eq r]
end
def evA {α:Type} (a:AV) (k:AV→α):α:=
 match a with
 | .int κ n=>evI n fun n=>k (.int κ n)
 | .bool b=>(match b with | true=>k (.bool true) | false=>k (.bool false))
 | .str s=>evL s fun s=>k (.str s)
 | .lst τ xs o=>evL xs fun xs=>(match o with | none=>k (.lst τ xs none) | some i=>k (.lst τ xs (some i)))
 | .row τ xs=>evL xs fun xs=>k (.row τ xs)
 | .arr i n w=>evN n fun n=>k (.arr i n w)
 | .aptr i n w o=>evN n fun n=>evN o fun o=>k (.aptr i n w o)
 | .ptr i o=>evN o fun o=>k (.ptr i o)
 | .cptr c=>evV c fun c=>k (.cptr c)
 | .agg cs=>evVs cs fun cs=>k (.agg cs)
 | .tup cs=>evVs cs fun cs=>k (.tup cs)
 | .fn f cs=>evVs cs fun cs=>k (.fn f cs)
 | .iface t a=>evV a fun a=>k (.iface t a)
 | .lstp τ xs i=>evL xs fun xs=>k (.lstp τ xs i)
 | a=>k a
theorem Dq {α:Type} (a:AV) (k:AV→α):evA a k=k a:=by
 unfold evA
 split
 ·exact wq _ _
 ·split <;> rfl
 ·exact dH _ _
 ·rw [dH];split <;> rfl
 ·exact dH _ _
 ·exact ed _ _
 ·rw [ed,ed]
 ·exact ed _ _
 ·exact evV_eq _ _
 ·exact evVs_eq _ _
 ·exact evVs_eq _ _
 ·exact evVs_eq _ _
 ·exact evV_eq _ _
 ·exact dH _ _
 ·rfl
mutual
def evW {α:Type}:AV→(AV→α)→α
 | .int κ n,k=>evI n fun n=>k (.int κ n)
 | .bool true,k=>k (.bool true)
 | .bool false,k=>k (.bool false)
 | .lst τ xs none,k=>k (.lst τ xs none)
 | .lst τ xs (some i),k=>k (.lst τ xs (some i))
 | .row τ xs,k=>evL xs fun xs=>k (.row τ xs)
 | .arr i n w,k=>evN n fun n=>k (.arr i n w)
 | .aptr i n w o,k=>evN n fun n=>evN o fun o=>k (.aptr i n w o)
 | .cptr c,k=>evW c fun c=>k (.cptr c)
 | .agg cs,k=>evWs cs fun cs=>k (.agg cs)
 | .tup cs,k=>evWs cs fun cs=>k (.tup cs)
 | .fn f cs,k=>evWs cs fun cs=>k (.fn f cs)
 | .iface t a,k=>evW a fun a=>k (.iface t a)
 | .lstp τ xs i,k=>evL xs fun xs=>k (.lstp τ xs i)
 | .str s,k=>k (.str s)
 | .undef,k=>k .undef
 | .nils,k=>k .nils
 | .ptr i o,k=>evN o fun o=>k (.ptr i o)
 | .nilp,k=>k .nilp
 | .st n x,k=>k (.st n x)
 | .map i,k=>k (.map i)
 | .bptr i,k=>k (.bptr i)
 | .nilif,k=>k .nilif
 | .nilm,k=>k .nilm
 | .pt n x,k=>k (.pt n x)
 | .tptr τ n i,k=>k (.tptr τ n i)
def evWs {α:Type}:List AV→(List AV→α)→α
 | [],k=>k []
 | a ::r,k=>evW a fun a=>evWs r fun r=>k (a ::r)
end
mutual
theorem evW_eq {α:Type}:∀(a:AV) (k:AV→α),evW a k=k a
 | .int κ n,k=>by rw [evW,wq]
 | .bool true,k=>rfl
 | .bool false,k=>rfl
 | .str s,k=>rfl
 | .lst τ xs none,k=>rfl
 | .lst τ xs (some i),k=>rfl
 | .row τ xs,k=>by rw [evW,dH]
 | .arr i n w,k=>by rw [evW,ed]
 | .aptr i n w o,k=>by rw [evW,ed,ed]
 | .cptr c,k=>by rw [evW,evW_eq c]
 | .agg cs,k=>by rw [evW,evWs_eq cs]
 | .tup cs,k=>by rw [evW,evWs_eq cs]
 | .fn f cs,k=>by rw [evW,evWs_eq cs]
 | .iface t a,k=>by rw [evW,evW_eq a]
 | .lstp τ xs i,k=>by rw [evW,dH]
 | .undef,k=>rfl
 | .nils,k=>rfl
 | .ptr _ o,k=>by rw [evW,ed]
 | .nilp,k=>rfl
 | .st _ _,k=>rfl
 | .map _,k=>rfl
 | .bptr _,k=>rfl
 | .nilif,k=>rfl
 | .nilm,k=>rfl
 | .pt _ _,k=>rfl
 | .tptr _ _ _,k=>rfl
theorem evWs_eq {α:Type}:∀(l:List AV) (k:List AV→α),evWs l k=k l
 | [],k=>rfl
 | a ::r,k=>by rw [evWs,evW_eq a,evWs_eq r]
end
def Cq:Op→Bool
 | .load _ _=>true
 | .move _=>true
 | _=>false
def evQ {α:Type} (o:Oper) (a:AV) (k:AV→α):α:=match Cq o.op with | true=>evW a k | false=>evA a k
theorem Dr {α:Type} (o:Oper) (a:AV) (k:AV→α):evQ o a k=k a:=by
 unfold evQ
 split
 ·exact evW_eq _ _
 ·exact Dq _ _
def evO {α:Type}:SObj→(SObj→α)→α
 | .box c,k=>evW c fun c=>k (.box c)
 | .tail τ n,k=>evN n fun n=>k (.tail τ n)
 | .map κ τ m,k=>evL m fun m=>k (.map κ τ m)
 | .bld t u l,k=>evL l fun l=>k (.bld t u l)
 | .tailp τ n x,k=>evN n fun n=>k (.tailp τ n x)
theorem Ds {α:Type} (o:SObj) (k:SObj→α):evO o k=k o:=by
 cases o with
 | box c=>exact evW_eq _ _
 | tail τ n=>unfold evO;exact ed _ _
 | map κ τ m=>exact dH _ _
 | bld t u l=>exact dH _ _
 | tailp τ n x=>unfold evO;exact ed _ _
def evB {α:Type}:List (Nat × SObj)→(List (Nat × SObj)→α)→α
 | [],k=>k []
 | (i,o) ::r,k=>evO o fun o=>evB r fun r=>k ((i,o) ::r)
theorem s6 {α:Type}:∀(l:List (Nat × SObj)) (k:List (Nat × SObj)→α),evB l k=k l
 | [],k=>rfl
 | (i,o) ::r,k=>by rw [evB,Ds,s6 r]
def evS {α:Type} (s:St) (k:St→α):α:=evL s.t fun t=>evB s.b fun b=>k ⟨t,b⟩
theorem B4 {α:Type} (s:St) (k:St→α):evS s k=k s:=by rw [evS,dH,s6]
theorem za {ob:Option DP} {q:Prop} (h:okO ob=true) (hq:q):nw ob q:=by
 cases ob with
 | none=>exact hq
 | some d=>exact ⟨d.h h,hq⟩
def xn {α:Sort _} (ops:List Oper) (o:Oper) (T:Nat→AV) (bad:α) (on off:Unit→α):α:=
 match o.guard with
 | none=>on ()
 | some (j,want)=>
  match (nth ops j).bind (·.dst) with
  | none=>bad
  | some d=>
   match T d with
   | .bool true=>if want then on () else off ()
   | .bool false=>if want then off () else on ()
   | .tup []=>off ()
   | _=>bad
theorem wu {α:Type} {ops:List Oper} {o:Oper} {T:Nat→AV} {y:α} {on off:Unit→Option α} {on' off':Unit→Prop} (hon:on ()=some y→on' ()) (hoff:off ()=some y→off' ())
  (h:xn ops o T none on off=some y):xn ops o T False on' off':=by
 unfold xn at h ⊢
 cases hg:o.guard with
 | none=>simp only [hg] at h ⊢;exact hon h
 | some p=>
  obtain ⟨j,want⟩:=p
  simp only [hg] at h ⊢
  cases hd:(nth ops j).bind (·.dst) with
  | none=>simp only [hd] at h;cases h
  | some d=>
   simp only [hd] at h ⊢
   generalize T d=v at h ⊢
   split at h
   ·split at h
    ·rename_i hw;exact (if_pos hw).symm ▸ hon h
    ·rename_i hw;exact (if_neg hw).symm ▸ hoff h
   ·split at h
    ·rename_i hw;exact (if_pos hw).symm ▸ hoff h
    ·rename_i hw;exact (if_neg hw).symm ▸ hon h
   ·exact hoff h
   ·cases h
def gdB (ops:List Oper) (g:Bool) (i:Nat):Bool:=match g with | true=>dU ops i | false=>false
def B5 (ops:List Oper):Bool:=ops.any fun o=>o.guard.isSome
theorem Dt (ops:List Oper) (i:Nat):gdB ops (B5 ops) i=dU ops i:=by
 unfold gdB
 cases h:B5 ops with
 | true=>rfl
 | false=>
  show false=dU ops i
  symm
  unfold B5 at h
  rw [List.any_eq_false] at h
  unfold dU
  rw [List.any_eq_false]
  intro o ho
  have:=h o ho
  cases hg:o.guard with
  | none=>simp
  | some x=>rw [hg] at this;exact absurd rfl this
def ui (C:Cfg) (ops:List Oper) (g:Bool):List Oper→Nat→St→List bg→Option (St × List bg)
 | [],_,s,fs=>some (s,fs.reverse)
 | o ::r,i,s,fs=>
  xn ops o (aL s.t) none
   (fun _=>
    match ar C o (aL s.t) (aj s.b) with
    | none=>none
    | some e=>
     match okO e.ob,bN C o (aL s.t) (aj s.b) with
     | true,none=>
      (match gdB ops g i,e.val with
      | true,.bool b=>(match b with
       | true=>ui C ops g r (i+1) ⟨nv s.t o.dst (.bool true),bR s.b e.upd⟩ ((aC C o (aL s.t) (aj s.b),e.upd.map (·.1)) ::fs)
       | false=>ui C ops g r (i+1) ⟨nv s.t o.dst (.bool false),bR s.b e.upd⟩ ((aC C o (aL s.t) (aj s.b),e.upd.map (·.1)) ::fs))
      | true,_=>none
      | false,v=>evQ o v fun v=>ui C ops g r (i+1) ⟨nv s.t o.dst v,bR s.b e.upd⟩ ((aC C o (aL s.t) (aj s.b),e.upd.map (·.1)) ::fs))
     | _,_=>none)
   (fun _=>ui C ops g r (i+1) ⟨nv s.t o.dst (.tup []),s.b⟩ (([],[]) ::fs))
theorem xo {C:Cfg} {ops:List Oper} {draw:Bool} {kp:AV→St→Prop} {k:St→List bg→Prop} {s':St} {fs':List bg} (hk:k s' fs') :
  ∀(l:List Oper) (i:Nat) (s:St) (fs:List bg),ui C ops (B5 ops) l i s fs=some (s',fs')→bz C ops draw kp l i s fs k
 | [],_,s,fs,h=>by
  simp only [ui,Xs,Prod.mk.injEq] at h
  obtain ⟨rfl,rfl⟩:=h
  exact hk
 | o ::r,i,s,fs,h=>by
  have ih:=xo (C:=C) (ops:=ops) (draw:=draw) (kp:=kp) hk r
  rw [ui,Dt] at h
  refine wu (on':=fun _=>
   match ar C o (aL s.t) (aj s.b) with
   | none=>False
   | some e=>
    nw e.ob
    (match bN C o (aL s.t) (aj s.b) with
    | none=>
     (match dU ops i,e.val with
     | true,.bool b=>
      sp b (bz C ops draw kp r (i+1) (s.put o.dst {e with val:=.bool true}) ((aC C o (aL s.t) (aj s.b),e.upd.map (·.1)) ::fs) k)
       (bz C ops draw kp r (i+1) (s.put o.dst {e with val:=.bool false}) ((aC C o (aL s.t) (aj s.b),e.upd.map (·.1)) ::fs) k)
     | true,_=>False
     | false,_=>bz C ops draw kp r (i+1) (s.put o.dst e) ((aC C o (aL s.t) (aj s.b),e.upd.map (·.1)) ::fs) k)
    | some (b,pv,u)=>
     (match dU ops i with
     | true=>False
     | false=>sp b (qP C ops draw kp r i s fs (aC C o (aL s.t) (aj s.b),e.upd.map (·.1)) pv u) (bz C ops draw kp r (i+1) (s.put o.dst e) ((aC C o (aL s.t) (aj s.b),e.upd.map (·.1)) ::fs) k))))
   (off':=fun _=>bz C ops draw kp r (i+1) ⟨nv s.t o.dst (.tup []),s.b⟩ (([],[]) ::fs) k) ?_ (fun h=>ih _ _ _ h) h
  intro h
  split at h
  ·cases h
  ·rename_i e he
   split at h
   ·rename_i ho hp
    refine za ho ?_
    try simp only [hp]
    split at h
    ·rename_i b hg hv
     try simp only [hg,hv]
     split at h
     ·exact ih _ _ _ h
     ·exact ih _ _ _ h
    ·cases h
    ·rename_i v hg
     simp only [Dr] at h
     try simp only [hg]
     exact ih _ _ _ h
   ·cases h
def Cr (ops:List Oper) (i j:Nat):Bool:=((dw ops).getD j 0).testBit i
def kc:Nat→List bg→List (Nat × bg)
 | _,[]=>[]
 | i,f ::r=>match f with | ([],[])=>kc (i+1) r | f=>(i,f) ::kc (i+1) r
def lY (ops:List Oper):List (Nat × bg)→Bool
 | []=>true
 | x ::r=>r.all (fun p=>Cr ops x.1 p.1 || cK x.2 p.2) && lY ops r
def xp (ops:List Oper):Bool:=
 ((List.range ops.length).all fun j=>(List.range j).all fun i=>Cr ops i j || (match nth ops i,nth ops j with | some x,some y=>eE ops x y | _,_=>false)) &&
 (ops.zipIdx.all fun (o,j)=>o.after.all fun e=>!Region.binds .any e || Nat.blt e.on j)
def wv (ops:List Oper) (fs:List bg):Bool:=xp ops && dQ fs ops.length && lY ops (kc 0 fs)
theorem oY {α:Type}:∀{l:List α} {i:Nat},i < l.length→∃x,nth l i=some x
 | a ::_,0,_=>⟨a,rfl⟩
 | _ ::r,i+1,h=>oY (l:=r) (Nat.lt_of_succ_lt_succ h)
theorem qq:∀{fs:List bg} {i0 k:Nat} {f:bg},nth fs k=some f→f≠([],[])→(i0+k,f)∈kc i0 fs
 | g ::r,i0,0,f,h,hf=>by
  cases h
  unfold kc
  split
  ·exact absurd rfl hf
  ·exact List.mem_cons_self ..
 | g ::r,i0,k+1,f,h,hf=>by
  have ih:=qq (fs:=r) (i0:=i0+1) (k:=k) h hf
  rw [show i0+(k+1)=i0+1+k by omega]
  unfold kc
  split
  ·exact ih
  ·exact List.mem_cons_of_mem _ ih
theorem mG {ops:List Oper}:∀{fs:List bg} {i0 a b:Nat} {f g:bg},lY ops (kc i0 fs)=true→a < b→nth fs a=some f→nth fs b=some g→f≠([],[])→g≠([],[])→(Cr ops (i0+a) (i0+b) || cK f g)=true
 | x ::r,i0,0,b+1,f,g,h,_,hf,hg,h1,h2=>by
  cases hf
  have hm:=qq (fs:=r) (i0:=i0+1) (k:=b) hg h2
  unfold kc at h
  split at h
  ·exact absurd rfl h1
  ·unfold lY at h
   rw [Bool.and_eq_true,List.all_eq_true] at h
   have:=h.1 _ hm
   rwa [show i0+1+b=i0+(b+1) by omega] at this
 | x ::r,i0,a+1,b+1,f,g,h,hab,hf,hg,h1,h2=>by
  have hr:lY ops (kc (i0+1) r)=true:=by
   unfold kc at h
   split at h
   ·exact h
   ·unfold lY at h
    rw [Bool.and_eq_true] at h
    exact h.2
  have:=mG (fs:=r) (i0:=i0+1) (a:=a) (b:=b) hr (by omega) hf hg h1 h2
  rwa [show i0+1+a=i0+(a+1) by omega,show i0+1+b=i0+(b+1) by omega] at this
theorem wx (g:bg):cK ([],[]) g=true:=by
 unfold cK qO
 simp
theorem uj (f:bg):cK f ([],[])=true:=by
 unfold cK qO
 simp
theorem l6 {α:Type}:∀{l:List α} {n:Nat},dQ l n=true→l.length=n
 | [],0,_=>rfl
 | _ ::r,n+1,h=>by rw [List.length_cons,l6 (l:=r) h]
theorem zb {ops:List Oper} {fs:List bg} (h:wv ops fs=true):dy ops fs=true:=by
 unfold wv xp at h
 simp only [Bool.and_eq_true,List.all_eq_true,List.mem_range] at h
 obtain ⟨⟨⟨h1,h2⟩,h3⟩,h4⟩:=h
 have hl:=l6 h3
 unfold dy
 rw [Bool.and_eq_true]
 refine ⟨?_,by rw [List.all_eq_true];intro p hp;have:=h2 p hp;exact (by obtain ⟨o,j⟩:=p;simpa using this)⟩
 rw [List.all_eq_true]
 intro j hj
 rw [List.all_eq_true]
 intro i hi
 rw [List.mem_range] at hj hi
 have k:=h1 j hj i hi
 rw [Bool.or_eq_true] at k ⊢
 rcases k with k | k
 ·exact .inl k
 obtain ⟨x,hx⟩:=oY (l:=ops) (i:=i) (by omega)
 obtain ⟨y,hy⟩:=oY (l:=ops) (i:=j) hj
 obtain ⟨f,hf⟩:=oY (l:=fs) (i:=i) (by omega)
 obtain ⟨g,hg⟩:=oY (l:=fs) (i:=j) (by omega)
 rw [hx,hy] at k
 rw [hx,hy,hf,hg]
 have q:Cr ops i j=true∨cK f g=true:=by
  by_cases c1:f=([],[])
  ·rw [c1];exact .inr (wx g)
  ·by_cases c2:g=([],[])
   ·rw [c2];exact .inr (uj f)
   ·have:=mG h4 hi hf hg c1 c2
    rw [Nat.zero_add,Nat.zero_add,Bool.or_eq_true] at this
    exact this
 rcases q with q | q
 ·exact .inl q
 ·exact .inr (by rw [Bool.and_eq_true];exact ⟨k,q⟩)
end Go.AL
end
noncomputable section
namespace Go.AL
variable [Tabs]
def B6:List (Nat × SObj)→Nat→Nat
 | [],m=>m *1000+998
 | (i,_) ::r,m=>B6 r (match Nat.ble m (i / 1000) with | true=>i / 1000+1 | false=>m)
def s7:List Nat→St→Option St
 | [],s=>some s
 | i ::r,s=>(match BF i (B6 s.b 100) s with | some s=>s7 r s | none=>none)
theorem l7 {F:Fr} {a:Act}:∀(l:List Nat) {s s':St} {Ω:Om},Holds F s.abs a Ω→s7 l s=some s'→∃Ω',Ω'.w=Ω.w/\Holds F s'.abs a Ω'
 | [],s,s',Ω,h,hr=>by cases hr;exact ⟨Ω,rfl,h⟩
 | i ::r,s,s',Ω,h,hr=>by
  unfold s7 at hr
  split at hr
  ·rename_i s1 h1
   obtain ⟨Ω1,e1,g1⟩:=oq h h1
   obtain ⟨Ω2,e2,g2⟩:=l7 r g1 hr
   exact ⟨Ω2,e2.trans e1,g2⟩
  ·cases hr
def wy (ops:List Oper) (s:St):Option St:=
 match enter ops s with
 | some s'=>some s'
 | none=>(match s7 ((s.b.map (·.1)).filter fun i=>wL (nz ops) (qQ ops) i && !bc i) s with | some s'=>enter ops s' | none=>none)
theorem s8 {F:Fr} {ops:List Oper} {s s':St} {a:Act} {Ω:Om} (h:Holds F s.abs a Ω) (he:wy ops s=some s'):∃Ω',Ω'.w=Ω.w/\Holds F s'.abs a Ω':=by
 unfold wy at he
 split at he
 ·rename_i s1 h1;cases he;exact jc h h1
 ·split at he
  ·rename_i s1 h1
   obtain ⟨Ω1,e1,g1⟩:=l7 _ h h1
   obtain ⟨Ω2,e2,g2⟩:=jc g1 he
   exact ⟨Ω2,e2.trans e1,g2⟩
  ·cases he
end Go.AL
end
noncomputable section
namespace Go.AL
def B7 (k:Nat) (s:St):Option St:=
 match aj s.b k with
 | some (.tailp τ n x)=>
  if ((s.t.flatMap (fun y=>lensV k y.2)++s.b.flatMap (fun y=>CA k y.2)).all fun m=>Nat.beq m n)=true then
   some ⟨s.t.map fun y=>(y.1,finV k τ x y.2),(mJ s.b k (.tail τ (n+1))).map fun y=>(y.1,xB k τ x y.2)⟩ else none
 | _=>some s
def xq:List Nat→St→Option St
 | [],s=>some s
 | k ::r,s=>(match B7 k s with | some s=>xq r s | none=>none)
theorem qt {n:Nat} {q:Prop} (hq:q):∀l:List Nat,(l.all fun m=>Nat.beq m n)=true→qR n l q
 | [],_=>hq
 | m ::r,h=>by
  rw [List.all_cons,Bool.and_eq_true] at h
  exact ⟨Nat.eq_of_beq_eq_true h.1,qt hq r h.2⟩
theorem B8 {k:Nat} {s s':St} {Q:St→Prop} (h:B7 k s=some s') (hq:Q s'):uM k s Q:=by
 unfold B7 at h
 unfold uM
 generalize hb:aj s.b k=b at h ⊢
 cases b with
 | none=>cases h;exact hq
 | some o=>
  cases o with
  | tailp τ n x=>
   dsimp only at h ⊢
   split at h
   ·rename_i ha
    cases h
    exact qt hq _ ha
   ·cases h
  | _=>cases h;exact hq
theorem uk {Q:St→Prop} {s':St} (hq:Q s'):∀(l:List Nat) (s:St),xq l s=some s'→uN l s Q
 | [],s,h=>by cases h;exact hq
 | k ::r,s,h=>by
  unfold xq at h
  split at h
  ·rename_i s1 h1
   exact B8 h1 (uk hq r s1 h)
  ·cases h
def trimM (keep:Nat) (s:St):St:=⟨s.t.filter fun x=>Nat.beq (Nat.land (Nat.shiftRight keep x.1) 1) 1,s.b⟩
def Du (C:Cfg) (keep:Nat) (ops:Array Oper) (draw:Bool) (s:St):Option St:=
 match ui C ops.toList (B5 ops.toList) ops.toList 0 s [] with
 | none=>none
 | some (s,fs)=>
  match xq (mS s.b) s with
  | none=>none
  | some s=>
   match draw with
   | false=>evS (trimM keep s) some
   | true=>(match wv ops.toList fs with | true=>evS (trimM keep s) some | false=>none)
theorem Holds.trimM [Tabs] {F:Fr} {s:St} {a:Act} {Ω:Om} (h:Holds F s.abs a Ω) (keep:Nat):Holds F (trimM keep s).abs a Ω:=by
 refine ⟨fun i=>?_,h.size,h.defers,h.slots,h.dom,h.inj,h.pubok,h.keep,h.frame⟩
 have e:(AL.trimM keep s).abs.T i=if Nat.beq (Nat.land (Nat.shiftRight keep i) 1) 1=true then aL s.t i else .undef:=gn s.t (fun i=>Nat.beq (Nat.land (Nat.shiftRight keep i) 1) 1) i
 rw [e]
 split
 ·exact h.tmps i
 ·exact .undef _
theorem wz [Tabs] {P:Program} {C:Cfg} {F:Fr} (hm:P.follows .mixedOrders=true) (hT:aK P C.tbl) (hS:bu P C.spec) {keep:Nat} {id:Nat} {ops:Array Oper} {draw:Bool} {s s':St} {a:Act} {Ω:Om}
  (hdst:∀(o:Oper),o∈ops.toList→∀d,o.dst=some d→d < F.n) (h:Du C keep ops draw s=some s') (hh:Holds F s.abs a Ω):(Code.region id ops draw).wp P (QL F fun y t=>y=.normal/\t=s') a Ω.w:=by
 have key:bz C ops.toList draw (fun _ _=>False) ops.toList 0 s [] fun s2 fs=>CR s2 fun s3=>s'=trimM keep s3/\(draw=true→dy ops.toList fs=true):=by
  unfold Du at h
  split at h
  ·cases h
  ·rename_i s1 fs h1
   refine xo ?_ _ _ _ _ h1
   split at h
   ·cases h
   ·rename_i s2 h2
    refine uk ?_ _ _ h2
    split at h
    ·rw [B4] at h
     cases h
     exact ⟨rfl,fun q=>by cases q⟩
    ·split at h
     ·rename_i hi
      rw [B4] at h
      cases h
      exact ⟨rfl,fun _=>zb hi⟩
     ·cases h
 refine kU hm hT hS hdst key (fun hdr s2 fs hk=>let ⟨s3,h3⟩:=lK _ hk;h3.2 hdr) hh (fun s2 fs a' Ω' hk h'=>
   let ⟨s3,Ω3,g1,g2,g3⟩:=oi h' hk
   ⟨.normal,trimM keep s3,Ω3,rfl,g1,g2.trimM keep,rfl,g3.1.symm⟩)
  (fun pv s2 a' Ω' v hk _ _=>hk.elim)
def xr (f:St→Option (SX × St)):Nat→St→Option (SX × St)
 | 0,_=>none
 | n+1,s=>
  match f s with
  | some (.normal,s')=>xr f n s'
  | r=>r
def gW (C:Cfg) (keep:Nat) (pubs:List (Nat × List Nat)) (N:Nat):Code→St→Option (SX × St)
 | .skip,s=>some (.normal,s)
 | .seq a b,s=>
  (match gW C keep pubs N a s with
  | some (.normal,s')=>gW C keep pubs N b s'
  | r=>r)
 | .cond c a b,s=>
  (match opd (aL s.t) c with
  | .bool true=>gW C keep pubs N a s
  | .bool false=>gW C keep pubs N b s
  | _=>none)
 | .block id c,s=>
  (match gW C keep pubs N c s with
  | some (.exit j,s')=>if j ==id then some (.normal,s') else some (.exit j,s')
  | r=>r)
 | .exit id,s=>some (.exit id,s)
 | .scope c,s=>gW C keep pubs N c s
 | .label _,s=>some (.normal,s)
 | .ret,s=>some (.ret,s)
 | .region id ops draw,s=>
  (match lq (si pubs id) s with
  | none=>none
  | some s=>
   match wy ops.toList s with
   | none=>none
   | some s=>
    match Du C keep ops draw s with
    | some s=>some (.normal,s)
    | none=>none)
 | .loop c,s=>xr (gW C keep pubs N c) N s
 | _,_=>none
variable [Tabs]
variable {P:Program} {C:Cfg} {F:Fr}
theorem wA (hm:P.follows .mixedOrders=true) (hT:aK P C.tbl) (hS:bu P C.spec) (keep:Nat) (pubs:List (Nat × List Nat)) (N:Nat) :
  ∀(c:Code) (s:St) (x:SX) (s':St) (a:Act) (Ω:Om),gW C keep pubs N c s=some (x,s')→bp F.n c=true→Holds F s.abs a Ω→c.wp P (QL F fun y t=>y=x/\t=s') a Ω.w:=by
 intro c
 induction c with
 | skip=>intro s x s' a Ω h _ hh;cases h;exact wp_skip ⟨.normal,s,Ω,rfl,rfl,hh,rfl,rfl⟩
 | region id ops draw=>
  intro s x s' a Ω h hd hh
  unfold gW at h
  split at h
  ·cases h
  ·rename_i s0 h0
   obtain ⟨Ω0,e0,g0⟩:=iz _ hh h0
   split at h
   ·cases h
   ·rename_i s1 h1
    obtain ⟨Ω1,e1,g1⟩:=s8 g0 h1
    have hdst:∀(o:Oper),o∈ops.toList→∀d,o.dst=some d→d < F.n:=by
     intro o ho d hod
     simp only [bp,List.all_eq_true] at hd
     have:=hd o ho
     rw [hod] at this
     simpa using this
    split at h
    ·rename_i s2 h2
     cases h
     rw [←e0,←e1]
     exact wz hm hT hS hdst h2 g1
    ·cases h
 | seq x y ihx ihy=>
  intro s z s' a Ω h hd hh
  simp only [bp,Bool.and_eq_true] at hd
  unfold gW at h
  cases h1:gW C keep pubs N x s with
  | none=>rw [h1] at h;cases h
  | some r=>
   obtain ⟨e1,s1⟩:=r
   rw [h1] at h
   refine wp_seq (wp_mono (ihx s e1 s1 a Ω h1 hd.1 hh) ?_)
   intro e a' w' hq
   obtain ⟨e2,s2,Ω',g1,g2,g3,g4,g5⟩:=hq
   subst g2 g4 g5
   cases e2 with
   | normal=>cases g1;exact ihy _ z s' a' Ω' h hd.2 g3
   | exit id=>cases g1;cases h;exact ⟨.exit id,_,Ω',rfl,rfl,g3,rfl,rfl⟩
   | ret=>cases g1;cases h;exact ⟨.ret,_,Ω',rfl,rfl,g3,rfl,rfl⟩
   | pan pv=>obtain ⟨v,rfl,hv⟩:=g1;cases h;exact ⟨.pan pv,_,Ω',⟨v,rfl,hv⟩,rfl,g3,rfl,rfl⟩
 | cond c x y ihx ihy=>
  intro s z s' a Ω h hd hh
  simp only [bp,Bool.and_eq_true] at hd
  unfold gW at h
  have hv:=aZ hh c
  split at h
  ·rename_i hb
   have hb':opd s.abs.T c=.bool true:=hb
   rw [hb'] at hv
   exact wp_cond hv.bool_inv (ihx _ z s' a Ω h hd.1 hh)
  ·rename_i hb
   have hb':opd s.abs.T c=.bool false:=hb
   rw [hb'] at hv
   exact wp_cond hv.bool_inv (ihy _ z s' a Ω h hd.2 hh)
  ·cases h
 | block id c ih=>
  intro s z s' a Ω h hd hh
  simp only [bp] at hd
  unfold gW at h
  cases h1:gW C keep pubs N c s with
  | none=>rw [h1] at h;cases h
  | some r=>
   obtain ⟨e1,s1⟩:=r
   rw [h1] at h
   refine wp_block (wp_mono (ih s e1 s1 a Ω h1 hd hh) ?_)
   intro e a' w' hq
   obtain ⟨e2,s2,Ω',g1,g2,g3,g4,g5⟩:=hq
   subst g2 g4 g5
   cases e2 with
   | normal=>cases g1;cases h;exact ⟨.normal,_,Ω',rfl,rfl,g3,rfl,rfl⟩
   | ret=>cases g1;cases h;exact ⟨.ret,_,Ω',rfl,rfl,g3,rfl,rfl⟩
   | pan pv=>obtain ⟨v,rfl,hv⟩:=g1;cases h;exact ⟨.pan pv,_,Ω',⟨v,rfl,hv⟩,rfl,g3,rfl,rfl⟩
   | exit j=>
    cases g1
    simp only [vm,Exit.inBlock]
    by_cases hj:j=id
    ·subst hj
     simp only [beq_self_eq_true,if_true] at h
     cases h
     simp only [if_true]
     exact ⟨.normal,_,Ω',rfl,rfl,g3,rfl,rfl⟩
    ·simp only [beq_iff_eq,hj,if_false] at h
     cases h
     rw [if_neg hj]
     exact ⟨.exit j,_,Ω',rfl,rfl,g3,rfl,rfl⟩
 | loop c ih=>
  intro s z s' a Ω h hd hh
  simp only [bp] at hd
  unfold gW at h
  refine wp_loop_rounds N ?_
  have key:∀(n:Nat) (s:St) (a:Act) (Ω:Om),xr (gW C keep pubs N c) n s=some (z,s')→Holds F s.abs a Ω→Code.rounds P c (QL F fun y t=>y=z/\t=s') n a Ω.w:=by
   intro n
   induction n with
   | zero=>intro s a Ω h _;cases h
   | succ n ihn=>
    intro s a Ω h hh
    rw [rounds_succ]
    unfold xr at h
    cases h1:gW C keep pubs N c s with
    | none=>rw [h1] at h;cases h
    | some r=>
     obtain ⟨e1,s1⟩:=r
     rw [h1] at h
     refine wp_mono (ih s e1 s1 a Ω h1 hd hh) ?_
     intro e a' w' hq
     obtain ⟨e2,s2,Ω',g1,g2,g3,g4,g5⟩:=hq
     subst g2 g4 g5
     cases e2 with
     | normal=>cases g1;exact ihn _ a' Ω' h g3
     | exit id=>cases g1;cases h;exact ⟨.exit id,_,Ω',rfl,rfl,g3,rfl,rfl⟩
     | ret=>cases g1;cases h;exact ⟨.ret,_,Ω',rfl,rfl,g3,rfl,rfl⟩
     | pan pv=>obtain ⟨v,rfl,hv⟩:=g1;cases h;exact ⟨.pan pv,_,Ω',⟨v,rfl,hv⟩,rfl,g3,rfl,rfl⟩
  exact key N s a Ω h hh
 | exit id=>intro s x s' a Ω h _ hh;cases h;exact wp_exit ⟨.exit id,s,Ω,rfl,rfl,hh,rfl,rfl⟩
 | ret=>intro s x s' a Ω h _ hh;cases h;exact wp_ret ⟨.ret,s,Ω,rfl,rfl,hh,rfl,rfl⟩
 | rangeFunc g ps x y _ _=>intro s z s' a Ω h;cases h
 | scope c ih=>
  intro s z s' a Ω h hd hh
  simp only [bp] at hd
  unfold gW at h
  refine wp_scope_straight (wp_mono (ih s z s' a Ω h hd hh) ?_)
  intro e a' w' hq
  obtain ⟨e2,s2,Ω',h1,h2,h3,h4⟩:=hq
  cases e2 with
  | normal=>cases h1;exact ⟨.normal,_,Ω',rfl,h2,h3,h4⟩
  | exit id=>cases h1;exact ⟨.exit id,_,Ω',rfl,h2,h3,h4⟩
  | ret=>cases h1;exact ⟨.ret,_,Ω',rfl,h2,h3,h4⟩
  | pan pv=>obtain ⟨v,rfl,hv⟩:=h1;exact ⟨.pan pv,_,Ω',⟨v,rfl,hv⟩,h2,h3,h4⟩
 | label l=>intro s x s' a Ω h _ hh;cases h;exact wp_label ⟨.normal,s,Ω,rfl,rfl,hh,rfl,rfl⟩
 | goto l=>intro s z s' a Ω h;cases h
 | refuse why=>intro s z s' a Ω h;cases h
end Go.AL
end
noncomputable section
namespace Go.AL
variable [Tabs]
mutual
def fineV:AV→Bool
 | .lstp _ _ _=>false
 | .tptr _ _ _=>false
 | .cptr c=>fineV c
 | .agg cs=>fineVs cs
 | .tup cs=>fineVs cs
 | .fn _ cs=>fineVs cs
 | .iface _ a=>fineV a
 | _=>true
def fineVs:List AV→Bool
 | []=>true
 | a ::r=>fineV a && fineVs r
end
def CJ:SObj→Bool
 | .box c=>fineV c
 | .tailp _ _ _=>false
 | _=>true
mutual
def strip:AV→AV
 | .lst τ xs _=>.lst τ xs none
 | .agg cs=>.agg (strips cs)
 | .tup cs=>.tup (strips cs)
 | a=>a
def strips:List AV→List AV
 | []=>[]
 | a ::r=>strip a ::strips r
end
theorem kz (τ:Ty) (xs:List (den τ)):eR τ τ xs=some xs:=by simp [eR]
theorem wB (n:SN) (x:SD n):iO n n x=some x:=by simp [iO]
theorem wC (n:SN) (x:Option (SD n)):mb n n x=some x:=by simp [mb]
theorem oZ (a:AV):pS a a:=by cases a <;> trivial
mutual
theorem LeV_self (G:List Nat):∀a:AV,fineV a=true→LeV G a a
 | .undef,_=>bL (by simp [LeF])
 | .int k n,_=>bL (by simp [LeF])
 | .bool b,_=>bL (by simp [LeF])
 | .str s,_=>bL (by simp [LeF])
 | .lst τ xs o,_=>bL (by simp [LeF,kz])
 | .nils,_=>bL (by simp [LeF])
 | .ptr i o,_=>bL (by simp [LeF])
 | .nilp,_=>bL (by simp [LeF])
 | .pt n x,_=>bL (by simp [LeF,wC])
 | .st n x,_=>bL (by simp [LeF,wB])
 | .row τ xs,_=>bL (by simp [LeF,kz])
 | .arr i n w,_=>bL (by simp [LeF])
 | .aptr i n w o,_=>bL (by simp [LeF])
 | .map i,_=>bL (by simp [LeF])
 | .bptr i,_=>bL (by simp [LeF])
 | .nilif,_=>bL (by simp [LeF])
 | .nilm,_=>bL (by simp [LeF])
 | .cptr c,h=>by simp only [fineV] at h;unfold LeV;exact ⟨oZ c,LeV_self G c h⟩
 | .agg cs,h=>by simp only [fineV] at h;unfold LeV;exact LeL_self G cs h
 | .tup cs,h=>by simp only [fineV] at h;unfold LeV;exact LeL_self G cs h
 | .fn f cs,h=>by simp only [fineV] at h;unfold LeV;exact ⟨by simp,LeL_self G cs h⟩
 | .iface t a,h=>by simp only [fineV] at h;unfold LeV;exact ⟨by simp,LeV_self G a h⟩
 | .lstp _ _ _,h=>by cases h
 | .tptr _ _ _,h=>by cases h
theorem LeL_self (G:List Nat):∀l:List AV,fineVs l=true→LeL G l l
 | [],_=>by unfold LeL;trivial
 | a ::r,h=>by
  simp only [fineVs,Bool.and_eq_true] at h
  unfold LeL
  exact ⟨LeV_self G a h.1,LeL_self G r h.2⟩
end
mutual
theorem LeV_strip (G:List Nat):∀a:AV,fineV a=true→LeV G a (strip a)
 | .lst τ xs o,_=>by unfold strip;exact bL (by simp [LeF,kz])
 | .agg cs,h=>by simp only [fineV] at h;unfold strip LeV;exact LeL_strip G cs h
 | .tup cs,h=>by simp only [fineV] at h;unfold strip LeV;exact LeL_strip G cs h
 | .undef,h=>LeV_self G _ h
 | .int k n,h=>LeV_self G _ h
 | .bool b,h=>LeV_self G _ h
 | .str s,h=>LeV_self G _ h
 | .nils,h=>LeV_self G _ h
 | .ptr i o,h=>LeV_self G _ h
 | .nilp,h=>LeV_self G _ h
 | .pt n x,h=>LeV_self G _ h
 | .st n x,h=>LeV_self G _ h
 | .row τ xs,h=>LeV_self G _ h
 | .arr i n w,h=>LeV_self G _ h
 | .aptr i n w o,h=>LeV_self G _ h
 | .map i,h=>LeV_self G _ h
 | .bptr i,h=>LeV_self G _ h
 | .nilif,h=>LeV_self G _ h
 | .nilm,h=>LeV_self G _ h
 | .cptr c,h=>LeV_self G _ h
 | .fn f cs,h=>LeV_self G _ h
 | .iface t a,h=>LeV_self G _ h
 | .lstp _ _ _,h=>by cases h
 | .tptr _ _ _,h=>by cases h
theorem LeL_strip (G:List Nat):∀l:List AV,fineVs l=true→LeL G l (strips l)
 | [],_=>by unfold strips LeL;trivial
 | a ::r,h=>by
  simp only [fineVs,Bool.and_eq_true] at h
  unfold strips LeL
  exact ⟨LeV_strip G a h.1,LeL_strip G r h.2⟩
end
theorem um {G:List Nat} {s:St}:∀(l l':List AV) (k:Nat),LeL G l l'→(∀j,aL s.t (k+j)=l.getD j .undef)→LeT G s (cr k l')
 | [],[],k,_,_=>trivial
 | a ::r,b ::r',k,h,hg=>by
  unfold LeL at h
  refine ⟨?_,um r r' (k+1) h.2 fun j=>?_⟩
  ·have:=hg 0
   rw [Nat.add_zero] at this
   rw [this]
   exact h.1
  ·have:=hg (j+1)
   rw [show k+1+j=k+(j+1) by omega,this]
   rfl
 | [],_ ::_,_,h,_=>by unfold LeL at h;exact h.elim
 | _ ::_,[],_,h,_=>by unfold LeL at h;exact h.elim
theorem jt {G:List Nat} {s:St}:∀l:List (Nat × SObj),(∀x∈l,aj s.b x.1=some x.2/\CJ x.2=true)→LeB G s l
 | [],_=>trivial
 | (i,.box c) ::r,h=>by
  obtain ⟨h1,h2⟩:=h _ (List.mem_cons_self ..)
  refine ⟨?_,jt r fun x hx=>h x (List.mem_cons_of_mem _ hx)⟩
  simp only at h1
  rw [h1]
  exact ⟨oZ c,LeV_self G c h2⟩
 | (i,.tail τ n) ::r,h=>by
  obtain ⟨h1,h2⟩:=h _ (List.mem_cons_self ..)
  refine ⟨?_,jt r fun x hx=>h x (List.mem_cons_of_mem _ hx)⟩
  simp only at h1
  rw [h1]
  simp
 | (i,.map κ τ m) ::r,h=>by
  obtain ⟨h1,h2⟩:=h _ (List.mem_cons_self ..)
  refine ⟨?_,jt r fun x hx=>h x (List.mem_cons_of_mem _ hx)⟩
  simp only at h1
  rw [h1]
  simp [wM]
 | (i,.bld t u l) ::r,h=>by
  obtain ⟨h1,h2⟩:=h _ (List.mem_cons_self ..)
  refine ⟨?_,jt r fun x hx=>h x (List.mem_cons_of_mem _ hx)⟩
  simp only at h1
  rw [h1]
  simp
 | (i,.tailp τ n x) ::r,h=>by
  obtain ⟨h1,h2⟩:=h _ (List.mem_cons_self ..)
  cases h2
end Go.AL
end
noncomputable section
namespace Go.AL
def mH (S:List (Nat × SObj)) (x:Nat × SObj):Bool:=match aj S x.1 with | some o=>eqO o x.2 | none=>false
def B9:List AV→AV
 | [a]=>a
 | l=>.tup l
def Ba (s:St) (l:List AV):List (Nat × SObj):=
 s.b.filter fun x=>bc x.1 || (gH (aj s.b) 64 (ids.idsL l++(aD s.b).filter bc) []).contains x.1
def Dv:Bool→List AV→List AV
 | true,l=>l
 | false,l=>strips l
def Bb (tok:Bool) (S:List (Nat × SObj)) (s:St) (l:List AV):Option Ans:=
 evVs (Dv tok l) fun l'=>evB (Ba s l') fun kept=>
  match fineVs l && (kept.all (fun x=>CJ x.2)) && aU (aD s.b) && (aD S).all (fun i=>(aD kept).contains i) &&
    (cv ((aD s.b).filter fun i=>!(aD kept).contains i) ⟨cr 0 l',kept⟩ && ((aD s.b).filter fun i=>!(aD kept).contains i).all (fun i=>!bc i)) with
  | true=>some ⟨none,none,B9 l',kept.filter fun x=>!mH S x⟩
  | false=>none
theorem n9:∀{l:List (Nat × SObj)},aU (aD l)=true→∀{i:Nat} {o:SObj},(i,o)∈l→aj l i=some o
 | [],_,_,_,h=>by cases h
 | (j,u) ::r,hd,i,o,h=>by
  simp only [aD,List.map_cons,aU,Bool.and_eq_true,Bool.not_eq_true',List.contains_eq_mem,decide_eq_false_iff_not] at hd
  rcases List.mem_cons.1 h with e | e
  ·cases e;simp [aH,aF]
  ·have hne:¬j=i:=fun q=>hd.1 (List.mem_map.2 ⟨_,e,q.symm⟩)
   simp only [aH,aF,beq_iff_eq,hne,if_false]
   exact n9 hd.2 e
theorem fk (p:Nat × SObj→Bool):∀{l:List (Nat × SObj)},aU (aD l)=true→aU (aD (l.filter p))=true
 | [],_=>rfl
 | x ::r,hd=>by
  simp only [aD,List.map_cons,aU,Bool.and_eq_true,Bool.not_eq_true',List.contains_eq_mem,decide_eq_false_iff_not] at hd
  have ih:=fk p hd.2
  rw [List.filter_cons]
  split
  ·simp only [aD,List.map_cons,aU,Bool.and_eq_true,Bool.not_eq_true',List.contains_eq_mem,decide_eq_false_iff_not]
   refine ⟨fun h=>hd.1 ?_,ih⟩
   obtain ⟨y,hy,e⟩:=List.mem_map.1 h
   exact List.mem_map.2 ⟨y,(List.mem_filter.1 hy).1,e⟩
  ·exact ih
variable [Tabs]
theorem Bc {l:List (Nat × SObj)} {i:Nat} (h:aj l i=none):i∉aD l:=gO l i h
theorem p7 {l:List (Nat × SObj)} {i:Nat} (h:i∉aD l):aj l i=none:=by
 cases hb:aj l i with
 | none=>rfl
 | some o=>exact absurd (List.mem_map.2 ⟨(i,o),cd l i o hb,rfl⟩) h
theorem Cs {S kept:List (Nat × SObj)} (hd:aU (aD kept)=true) (hS:∀i∈aD S,i∈aD kept):aj (bR S (kept.filter fun x=>!mH S x))=aj kept:=by
 funext i
 have hdf:=fk (fun x=>!mH S x) hd
 rw [lU _ S i hdf]
 cases hk:aj kept i with
 | some o=>
  have hm:=cd kept i o hk
  cases hs:mH S (i,o) with
  | false=>
   have:(i,o)∈kept.filter fun x=>!mH S x:=List.mem_filter.2 ⟨hm,by rw [hs];rfl⟩
   rw [n9 hdf this]
   rfl
  | true=>
   have hn:aj (kept.filter fun x=>!mH S x) i=none:=by
    cases hb:aj (kept.filter fun x=>!mH S x) i with
    | none=>rfl
    | some o'=>
     have h1:=List.mem_filter.1 (cd _ i o' hb)
     have h2:=n9 hd h1.1
     rw [hk] at h2
     cases h2
     have h3:=h1.2
     rw [hs] at h3
     cases h3
   rw [hn]
   unfold mH at hs
   split at hs
   ·rename_i o' ho'
    simp only at ho' hs
    rw [ho',zp hs]
    rfl
   ·cases hs
 | none=>
  have h1:i∉aD kept:=Bc hk
  rw [p7 (l:=S) fun h=>h1 (hS i h),p7 fun h=>h1 ?_]
  ·rfl
  ·obtain ⟨y,hy,e⟩:=List.mem_map.1 h
   exact List.mem_map.2 ⟨y,(List.mem_filter.1 hy).1,e⟩
theorem p8 {G:List Nat}:∀{l m:List AV},LeL G l m→l.length=m.length
 | [],[],_=>rfl
 | _ ::_,_ ::_,h=>by unfold LeL at h;rw [List.length_cons,List.length_cons,p8 h.2]
 | [],_ ::_,h=>by unfold LeL at h;exact h.elim
 | _ ::_,[],h=>by unfold LeL at h;exact h.elim
theorem zc {tok:Bool} {S:List (Nat × SObj)} {s:St} {l:List AV} {A:Ans} (h:Bb tok S s l=some A) :
  A.ob=none/\A.pan=none/\∃l' kept,A.val=B9 l'/\l'.length=l.length/\LeS ⟨cr 0 l,s.b⟩ ⟨cr 0 l',kept⟩/\aj (bR S A.upd)=aj kept:=by
 unfold Bb at h
 rw [evVs_eq,s6] at h
 split at h
 ·rename_i hc
  cases h
  simp only [Bool.and_eq_true,List.all_eq_true] at hc
  obtain ⟨⟨⟨⟨h1,h2⟩,h3⟩,h4⟩,h5,h6⟩:=hc
  refine ⟨rfl,rfl,Dv tok l,Ba s (Dv tok l),rfl,?_,⟨?_,?_,?_⟩,?_⟩
  ·cases tok with
   | true=>rfl
   | false=>exact (p8 (LeL_strip [] l h1)).symm
  ·rw [if_pos]
   ·trivial
   ·rw [Bool.and_eq_true,List.all_eq_true]
    exact ⟨h5,h6⟩
  ·refine um l _ 0 ?_ fun j=>?_
   ·cases tok with
    | true=>exact LeL_self _ l h1
    | false=>exact LeL_strip _ l h1
   ·show aL (cr 0 l) (0+j)=_
    rw [eI]
    simp
  ·refine jt _ fun x hx=>⟨?_,h2 x hx⟩
   exact n9 h3 (List.mem_filter.1 hx).1
  ·refine Cs (fk _ h3) fun i hi=>?_
   have:=h4 i hi
   rwa [List.contains_eq_mem,decide_eq_true_eq] at this
 ·cases h
structure FB where
 body:Code
 n:Nat
 res:List ResultVar
 keep:Nat
 pubs:List (Nat × List Nat)
 pend:Nat→Bool
 rows:Nat→Bool
 same:Nat→Bool
 tok:Bool
 ps:List (Option Ty)
def Bd:Option Ty→AV→AV
 | some (.st n),a=>(match arg (.st n) a with | some x=>.st n x | none=>a)
 | _,a=>a
def xt:List (Option Ty)→List AV→List AV
 | p ::ps,a ::r=>Bd p a ::xt ps r
 | _,l=>l
def Dw (C:Cfg) (N:Nat) (x:FB) (args:List AV) (S:List (Nat × SObj)):Option Ans:=
 evVs (xt x.ps args) fun args=>evB S fun S=>
  match jQ args x.n && (aD S).all bc with
  | false=>none
  | true=>
   match gW C x.keep x.pubs N x.body ⟨cr 0 args,S⟩ with
   | some (.normal,s)=>(match iK C.tbl s x.res with | some l=>Bb x.tok S s l | none=>none)
   | some (.ret,s)=>(match iK C.tbl s x.res with | some l=>Bb x.tok S s l | none=>none)
   | _=>none
variable {P:Program} {C:Cfg}
theorem Be (p:Option Ty) (a:AV):Rd a (Bd p a):=by
 unfold Bd
 split
 ·split
  ·rename_i x hx;exact Rd.arg hx
  ·exact Rd.refl a
 ·exact Rd.refl a
theorem uo:∀(ps:List (Option Ty)) (l:List AV),RdL l (xt ps l)
 | [],l=>RdL.refl l
 | p ::ps,[]=>.nil
 | p ::ps,a ::r=>.cons (Be p a) (uo ps r)
theorem runF_meets (hm:P.follows .mixedOrders=true) (hT:aK P C.tbl) (hS:bu P C.spec) {N:Nat} {x:FB} {f:Nat} {fn:Func} (hf:P.funcs[f]?=some fn) (hb:fn.body=some x.body) (hn:fn.ntmps=x.n) (hr:fn.results.toList=x.res)
  (hd:bp x.n x.body=true) {args:List AV} {S:List (Nat × SObj)} {A:Ans} (h:Dw C N x args S=some A):ao P f args S A:=by
 refine ao.args (uo x.ps args) ?_
 intro w pub e vs hp ht hv hs hdom hinj
 unfold Dw at h
 rw [evVs_eq,s6] at h
 split at h
 ·cases h
 ·rename_i hck
  simp only [Bool.and_eq_true,List.all_eq_true] at hck
  obtain ⟨hck2,hck3⟩:=hck
  have hlen:=da _ _ hck2
  have hlent:∀id c,e id=some c→bc id=true:=by
   intro id c hc
   cases hg:aj S id with
   | none=>rw [hdom id hg] at hc;cases hc
   | some o=>exact hck3 id (List.mem_map.2 ⟨(id,o),cd _ _ _ hg,rfl⟩)
  have hrun:∃z s',gW C x.keep x.pubs N x.body ⟨cr 0 (xt x.ps args),S⟩=some (z,s')/\(match iK C.tbl s' x.res with | some l=>Bb x.tok S s' l | none=>none)=some A/\(z=.normal∨z=.ret):=by
   split at h
   ·rename_i s' hz;exact ⟨_,s',hz,h,.inl rfl⟩
   ·rename_i s' hz;exact ⟨_,s',hz,h,.inr rfl⟩
   ·cases h
  obtain ⟨z,s',hz,he,hzz⟩:=hrun
  refine calls_of_wp hf hb ?_
  have hh:=iB (n:=fn.ntmps) hp ht hv (by rw [hn];exact hlen) hs hdom hinj hlent
  rw [←hn] at hd
  refine wp_mono (wA (F:=⟨w,pub,fn.ntmps,e,hlent,[],ht⟩) hm hT hS _ _ N x.body _ z s' _ _ hz hd hh) ?_
  intro en a' w' hq
  obtain ⟨z2,s2,Ω',h1,h2,h3,h4,h5⟩:=hq
  subst h2 h4 h5
  have hmap:∀us,(fn.results.toList.mapM (lL a'.tmps)).run P Ω'.w=.ok us Ω'.w→
    (results fn a'.tmps).run P Ω'.w=.ok (if h:us.toArray.size=1 then us.toArray[0] else .tuple us.toArray) Ω'.w:=by
   intro us hus
   rw [kl,←Array.toArray_toList (xs:=fn.results),List.mapM_toArray]
   simp only [Sem.run_bind,Sem.run_map,hus,Result.andThen_ok,Sem.run_pure]
  have main:a'.defers=[]/\∃v,(results fn a'.tmps).run P Ω'.w=.ok v Ω'.w/\∃pub' e',(∀b pv u,A.pan=some (b,pv,u)→b=false)/\V ⟨e',Ω'.w,pub'⟩ A.val v/\After w pub e (aj (bR S A.upd)) Ω'.w pub' e':=by
   refine ⟨h3.defers,?_⟩
   split at he
   ·rename_i l hres
    rw [←hr] at hres
    obtain ⟨a1,a2,l',kept,a3,a4,a5,a6⟩:=zc he
    obtain ⟨us,k1,k2⟩:=dN hT h3 _ _ hres
    obtain ⟨Ω2,e2,hh2⟩:=cR (s:=⟨cr 0 l,s2.b⟩) (h3.retmp k2) a5
    rw [a3,a6]
    refine ⟨_,hmap us k1,Ω2.pub,Ω2.e,fun b pv u q=>(by rw [a2] at q;cases q),?_,by rw [←e2];exact fX hh2⟩
    have hval:∀(j:Nat) c v,l'[j]?=some c→us[j]?=some v→V ⟨Ω2.e,Ω'.w,Ω2.pub⟩ c v:=fun j c v hc hv=>by
     have:=hh2.tmps j
     simp only [St.abs,eI,Nat.zero_le,if_true,Nat.sub_zero,List.getD_eq_getElem?_getD,hc,Option.getD_some] at this
     have e3:(us.toArray++Array.replicate 0 undef).getD j undef=v:=by
      simp [Array.getD_eq_getD_getElem?,hv]
     rw [e3] at this
     rw [←e2]
     exact this
    have hlu:l'.length=us.length:=a4.trans k2.1
    by_cases h1':us.toArray.size=1
    ·rw [dif_pos h1']
     obtain ⟨u,rfl⟩:=gR (l:=us) (by simpa using h1')
     obtain ⟨c,rfl⟩:=gR (l:=l') (by rw [hlu];rfl)
     exact hval 0 c u rfl rfl
    ·rw [dif_neg h1']
     have:B9 l'=.tup l':=by
      match l',hlu with
      | [],_=>rfl
      | [c],q=>exact absurd (by simpa using q.symm) h1'
      | _ ::_ ::_,_=>rfl
     rw [this]
     exact .tup l' us hlu hval
   ·cases he
  rcases hzz with rfl | rfl
  ·cases h1;exact main
  ·cases h1;exact main
def xu:List (Nat × FB)→Nat→Option FB
 | [],_=>none
 | (j,x) ::r,f=>if Nat.beq j f=true then some x else xu r f
def bQ (tbl:List (Nat × TR)) (fn:Func) (keep:Nat) (pubs:List (Nat × List Nat)) (pend rows same:Nat→Bool) (tok:Bool):FB:=
 ⟨fn.body.getD .skip,fn.ntmps,fn.results.toList,keep,pubs,pend,rows,same,tok,fn.params.toList.map fun t=>(az tbl t).bind (·.ty)⟩
def fbok (fn:Func):Bool:=match fn.body with | none=>false | some c=>bp fn.ntmps c && !(fn.name == "runtime.NumGoroutine")
def aN (P:Program) (tab:List (Nat × FB)):Prop:=∀f x,xu tab f=some x→
 ∃fn,P.funcs[f]?=some fn/\fn.body=some x.body/\fn.ntmps=x.n/\fn.results.toList=x.res/\bp x.n x.body=true/\(fn.name == "runtime.NumGoroutine")=false
theorem aN.nil:aN P []:=fun f x h=>by cases h
theorem aN.cons {tbl:List (Nat × TR)} {f:Nat} {fn:Func} {keep:Nat} {pubs:List (Nat × List Nat)} {pend rows same:Nat→Bool} {tok:Bool} {tab:List (Nat × FB)} (hf:P.funcs[f]?=some fn) (hc:fbok fn=true) (ht:aN P tab) :
  aN P ((f,bQ tbl fn keep pubs pend rows same tok) ::tab):=by
 intro g x h
 unfold xu at h
 split at h
 ·rename_i hb
  obtain rfl:=Nat.eq_of_beq_eq_true hb
  cases h
  unfold fbok at hc
  split at hc
  ·cases hc
  ·rename_i c hb'
   simp only [Bool.and_eq_true,Bool.not_eq_true'] at hc
   exact ⟨fn,hf,by simp [bQ,hb'],rfl,rfl,by simpa [bQ,hb'] using hc.1,hc.2⟩
 ·exact ht g x h
def p9 (tbl:List (Nat × TR)) (tab:List (Nat × FB)) (keeps:Nat→Bool) (lends:Nat→List (Option Nat)) (N:Nat) (base:Nat→List AV→List (Nat × SObj)→Option Ans) :
  Nat→Nat→List AV→List (Nat × SObj)→Option Ans
 | 0,f,us,S=>base f us S
 | n+1,f,us,S=>
  match base f us S with
  | some A=>some A
  | none=>
  match xu tab f with
  | none=>none
  | some x=>Dw ⟨tbl,p9 tbl tab keeps lends N base n,keeps,lends,x.pend,x.rows,x.same⟩ N x us S
theorem xw {tbl:List (Nat × TR)} {tab:List (Nat × FB)} {keeps:Nat→Bool} {lends:Nat→List (Option Nat)} {N:Nat} {base:Nat→List AV→List (Nat × SObj)→Option Ans}
  (hm:P.follows .mixedOrders=true) (hT:aK P tbl) (hB:bu P base) (ht:aN P tab):∀n:Nat,bu P (p9 tbl tab keeps lends N base n)
 | 0=>hB
 | n+1=>by
  intro f args S A h ho hl
  unfold p9 at h
  split at h
  ·rename_i A' hb
   cases h
   exact hB f args S A hb ho hl
  split at h
  ·cases h
  ·rename_i x hx
   obtain ⟨fn,h1,h2,h3,h4,h5,h6⟩:=ht f x hx
   exact ⟨⟨fn,h1,by rw [h2];rfl,h6⟩,runF_meets hm hT (xw hm hT hB ht n) h1 h2 h3 h4 h5 h⟩
theorem eL {tbl:List (Nat × TR)} {tab:List (Nat × FB)} {keeps:Nat→Bool} {lends:Nat→List (Option Nat)} {N n f:Nat} {base:Nat→List AV→List (Nat × SObj)→Option Ans} {args:List AV} {v:AV} {u:List (Nat × SObj)}
  (hm:P.follows .mixedOrders=true) (hT:aK P tbl) (hB:bu P base) (ht:aN P tab) (h:p9 tbl tab keeps lends N base n f args []=some ⟨none,none,v,u⟩):ao P f args [] ⟨none,none,v,u⟩:=
 (xw hm hT hB ht n f args [] _ h (fun _ q=>by cases q) rfl).2
end Go.AL
end
noncomputable section
namespace Go.AL
variable [Tabs] {P:Program}
def q1 (τ:Ty) (b:den τ→Bool) (F:den τ→AV):Pat
 | [a],[]=>(match arg τ a with | some x=>(match b x with | true=>some (.ret (F x)) | false=>none) | none=>none)
 | _,_=>none
theorem CK {f:Nat} {τ:Ty} {b:den τ→Bool} {F:den τ→AV} {O:den τ→Prop} (h:ag P f (p1 τ fun x=>⟨some (O x),none,F x,[]⟩)) (hb:∀x,b x=true→O x):ag P f (q1 τ b F):=by
 intro args S A hA ho hl
 unfold q1 at hA
 split at hA
 ·rename_i a
  split at hA
  ·rename_i x hx
   split at hA
   ·rename_i ht
    cases hA
    have k:=h [a] [] ⟨some (O x),none,F x,[]⟩ (by simp [p1,hx]) (fun q hq=>by cases hq;exact hb x ht) hl
    exact ⟨k.1,k.2⟩
   ·cases hA
  ·cases hA
 ·cases hA
def q2 (τ σ:Ty) (b:den τ→den σ→Bool) (F:den τ→den σ→AV):Pat
 | [a,c],[]=>(match arg τ a,arg σ c with | some x,some y=>(match b x y with | true=>some (.ret (F x y)) | false=>none) | _,_=>none)
 | _,_=>none
theorem uq {f:Nat} {τ σ:Ty} {b:den τ→den σ→Bool} {F:den τ→den σ→AV} {O:den τ→den σ→Prop} (h:ag P f (p2 τ σ fun x y=>⟨some (O x y),none,F x y,[]⟩)) (hb:∀x y,b x y=true→O x y):ag P f (q2 τ σ b F):=by
 intro args S A hA ho hl
 unfold q2 at hA
 split at hA
 ·rename_i a c
  split at hA
  ·rename_i x y hx hy
   split at hA
   ·rename_i ht
    cases hA
    have k:=h [a,c] [] ⟨some (O x y),none,F x y,[]⟩ (by simp [p2,hx,hy]) (fun q hq=>by cases hq;exact hb x y ht) hl
    exact ⟨k.1,k.2⟩
   ·cases hA
  ·cases hA
 ·cases hA
def mI (as0:List AV) (v:AV):Pat:=fun args S=>match eqVs as0 args,S with | true,[]=>some (.ret v) | _,_=>none
theorem jN {f:Nat} {as0:List AV} {v:AV} (he:aq P f) (h:ao P f as0 [] (.ret v)):ag P f (mI as0 v):=by
 intro args S A hA ho hl
 unfold mI at hA
 split at hA
 ·rename_i heq
  cases hA
  rw [←eqVs_ok _ _ heq]
  exact ⟨he,h⟩
 ·cases hA
def t1 (τ:Ty) (b:den τ→Bool):List AV→List (Nat × SObj)→Bool
 | [a],_=>(match arg τ a with | some x=>b x | none=>false)
 | _,_=>false
end Go.AL
end
noncomputable section
namespace Go.AL.Seat
open Go Go.AL Go.Proofs Go.Shelf Go.Pd
variable [Tabs]
def Dx (t:Str):Bool:=!t.isEmpty && decide (t.length<=15) && t.all fun c=>decide (48<=c.toNat) && decide (c.toNat<=57)
theorem Ct {t:Str} (h:Dx t=true):qe t:=by
 unfold Dx at h
 simp only [Bool.and_eq_true,Bool.not_eq_true',decide_eq_true_eq,List.all_eq_true] at h
 exact ⟨fun e=>(by rw [e] at h;exact absurd h.1.1 (by decide)),h.1.2,h.2⟩
def pa:List (Nat × Pat):=
 [(111,p1 .str fun s=>.ret (.tup [.int .i32 ((iD s).1:Int),.int .i64 ((iD s).2:Int)])),
  (125,p2 .str (.int .u8) fun a c=>.ret (.int .i64 (A6 a c))),
  (76,q2 .str .str (fun _ b=>decide (b=ox)) fun a _=>.str (oy a)),
  (120,q2 .str .str (fun a b=>decide (b=[45]) && decide (a.length < 4294967281)) fun a _=>.tup [.str (gy a),.str (kr a),.bool (lN a)]),
  (121,q2 .str .str (fun a b=>decide (b=[46]) && decide (a.length < 4294967281)) fun a _=>.lst .str (splitB 46 a) none),
  (127,q2 .str .str (fun _ b=>decide (b.length=1)) fun a b=>.bool (decide (b.getD 0 0∈a))),
  (123,q1 .str Dx fun t=>.tup [.int .i64 (k7 t),.nilif]),
  (72,p1 .str fun s=>.ret (.bool (aw s))),(73,p1 .str fun s=>.ret (.bool (cU s))),
  (129,p1 (.st .shape) fun s=>.ret (.int .i64 (dx s))),
  (15,q1 (.st .term) bj fun t=>.int .i64 (bG t))]
theorem gX [SeatLaid] [SeatPow]:bu Tryz.prog (dt pa):=
 sc oF (sc pD (sc (uq Ac fun _ _ h=>Xo h)
  (sc (uq BW fun _ _ h=>by rw [Bool.and_eq_true] at h;exact ⟨Xo h.1,Xo h.2⟩)
  (sc (uq ym fun _ _ h=>by rw [Bool.and_eq_true] at h;exact ⟨Xo h.1,Xo h.2⟩)
  (sc (uq rK fun _ _ h=>Xo h) (sc (CK A5 fun _ h=>Ct h)
  (sc gf (sc jM (sc qk (sc (CK iG fun _ h=>h) sn))))))))))
end Go.AL.Seat
end
noncomputable section
namespace Go.AL.Seat
open Go Go.AL Go.Proofs
variable [Tabs]
def aV:List (Nat × TR):=[(3,r2),(9,r9),(26,⟨.strct false [(0,3),(1,9),(2,9),(3,3),(4,22),(5,22),(6,23),(7,24),(8,3)],9,152,[.int .i64 0,.str [],.str [],.int .i64 0,.nils,.nils,.nils,.nils,.int .i64 0],some (.st .term)⟩),(115,⟨.strct false [(0,113)],4,48,[.nils,.int .i64 0,.int .i64 0,.int .i64 0],some (.st .par)⟩),(110,⟨.ptr 115,1,8,[.nilp],none⟩),(5,r5),(109,⟨.strct true [(0,3),(1,9),(2,3)],3,32,[.int .i64 0,.str [],.int .i64 0],some (.st .token)⟩),(35,⟨.strct true [(0,33),(1,3)],2,16,[.int .i64 0,.int .i64 0],some (.st .fault)⟩),(93,⟨.strct false [(0,3),(1,9),(2,9),(3,22),(4,23)],5,88,[.int .i64 0,.str [],.str [],.nils,.nils],some (.st .shape)⟩),(103,C5),(22,⟨.slice 9,1,24,[.nils],some (.lst .str)⟩),(101,C4),(23,⟨.slice 93,1,24,[.nils],some (.lst (.st .shape))⟩),(24,⟨.slice 26,1,24,[.nils],some (.lst (.st .term))⟩),(113,⟨.strct false [(0,68),(1,3),(2,35)],4,48,[.nils,.int .i64 0,.int .i64 0,.int .i64 0],some (.st .par)⟩),(33,r2),(68,⟨.slice 109,1,24,[.nils],some (.lst (.st .token))⟩),(134,⟨.strct true [(0,3),(1,3),(2,3),(3,9)],4,40,[.int .i64 0,.int .i64 0,.int .i64 0,.str []],some (.st .version)⟩),(4,⟨.bool,1,1,[.bool false],some .bool⟩),(99,⟨.ptr 103,1,8,[.nilp],none⟩),(1,r1),(140,r1),(127,⟨.slice 3,1,24,[.nils],some (.lst (.int .i64))⟩),(169,⟨.arr 3 3,3,24,[.int .i64 0,.int .i64 0,.int .i64 0],none⟩),(175,⟨.slice 5,1,24,[.nils],some (.lst (.int .u8))⟩),(21,r21),(92,⟨.strct false [(0,3),(1,9),(2,9),(3,22),(4,23)],5,88,[.int .i64 0,.str [],.str [],.nils,.nils],none⟩),(133,⟨.strct true [(0,3),(1,3),(2,3),(3,9)],4,40,[.int .i64 0,.int .i64 0,.int .i64 0,.str []],none⟩),(112,⟨.strct false [(0,68),(1,3),(2,35)],4,48,[.nils,.int .i64 0,.int .i64 0,.int .i64 0],none⟩),(114,⟨.strct false [(0,113)],4,48,[.nils,.int .i64 0,.int .i64 0,.int .i64 0],none⟩),(108,⟨.strct true [(0,3),(1,9),(2,3)],3,32,[.int .i64 0,.str [],.int .i64 0],none⟩),(102,C5),(100,C4),(34,⟨.strct true [(0,33),(1,3)],2,16,[.int .i64 0,.int .i64 0],none⟩),(25,⟨.strct false [(0,3),(1,9),(2,9),(3,3),(4,22),(5,22),(6,23),(7,24),(8,3)],9,152,[.int .i64 0,.str [],.str [],.int .i64 0,.nils,.nils,.nils,.nils,.int .i64 0],none⟩)]
theorem gY:aK Tryz.prog aV:=.cons tk (.cons tk (.cons tk (.cons tk (.cons tk (.cons tk (.cons tk (.cons tk (.cons tk (.cons tk (.cons tk (.cons tk (.cons tk (.cons tk (.cons tk (.cons tk (.cons tk (.cons tk (.cons tk (.cons tk (.cons tk (.cons tk (.cons tk (.cons tk (.cons tk (.cons tk (.cons tk (.cons tk (.cons tk (.cons tk (.cons tk (.cons tk (.cons tk (.cons tk (.cons tk (.nil)))))))))))))))))))))))))))))))))))
end Go.AL.Seat
end
noncomputable section
namespace Go.AL.Seat
open Go Go.AL Go.Proofs
set_option maxRecDepth 1000000
variable [Tabs]
def lZ (f:Nat):List (Option Nat):=if Nat.beq f 43 || Nat.beq f 44 then [some 2] else []
def ma (f:Nat):Bool:=false
def gg:List (Nat × FB):=(12,bQ aV Tryz.f12 4362109181 [] (fun _=>false) (fun _=>false) (fun _=>false) false) ::(24,bQ aV Tryz.f24 77975715369647181664879229 [] (fun _=>false) (fun _=>false) (fun _=>false) false) ::(25,bQ aV Tryz.f25 9016029707634675 [] (fun _=>false) (fun _=>false) (fun _=>false) false) ::(26,bQ aV Tryz.f26 531 [] (fun _=>false) (fun _=>false) (fun _=>false) false) ::(43,bQ aV Tryz.f43 65555 [] (fun _=>false) (fun _=>false) (fun _=>false) false) ::(44,bQ aV Tryz.f44 4294967347 [] (fun _=>false) (fun _=>false) (fun _=>false) false) ::(45,bQ aV Tryz.f45 5 [] (fun _=>false) (fun _=>false) (fun _=>false) false) ::(46,bQ aV Tryz.f46 8388935 [] (fun _=>false) (fun _=>false) (fun _=>false) false) ::(47,bQ aV Tryz.f47 87112288527988523651034566703108870643455 [] (fun _=>false) (fun _=>false) (fun d=>Nat.beq d 21) false) ::(48,bQ aV Tryz.f48 33816627 [] (fun _=>false) (fun _=>false) (fun _=>false) false) ::(49,bQ aV Tryz.f49 5 [] (fun _=>false) (fun _=>false) (fun _=>false) false) ::(50,bQ aV Tryz.f50 268439557 [] (fun _=>false) (fun _=>false) (fun _=>false) false) ::(51,bQ aV Tryz.f51 81129648086015544455969055506495 [] (fun _=>false) (fun _=>false) (fun _=>false) false) ::(52,bQ aV Tryz.f52 263 [] (fun _=>false) (fun _=>false) (fun _=>false) false) ::(65,bQ aV Tryz.f65 549890048253 [] (fun _=>false) (fun _=>false) (fun _=>false) false) ::(66,bQ aV Tryz.f66 71 [] (fun _=>false) (fun _=>false) (fun _=>false) false) ::(67,bQ aV Tryz.f67 79 [] (fun _=>false) (fun _=>false) (fun _=>false) false) ::(68,bQ aV Tryz.f68 5 [] (fun _=>false) (fun _=>false) (fun _=>false) false) ::(69,bQ aV Tryz.f69 5 [] (fun _=>false) (fun _=>false) (fun _=>false) false) ::(70,bQ aV Tryz.f70 5 [] (fun _=>false) (fun _=>false) (fun _=>false) false) ::(71,bQ aV Tryz.f71 29 [] (fun _=>false) (fun _=>false) (fun _=>false) false) ::(74,bQ aV Tryz.f74 5 [] (fun _=>false) (fun _=>false) (fun _=>false) false) ::(75,bQ aV Tryz.f75 5 [] (fun _=>false) (fun _=>false) (fun _=>false) false) ::(77,bQ aV Tryz.f77 151115799509488183025661 [] (fun _=>false) (fun _=>false) (fun _=>false) false) ::(78,bQ aV Tryz.f78 618970019647202533975261693 [] (fun _=>false) (fun _=>false) (fun _=>false) false) ::(79,bQ aV Tryz.f79 29 [] (fun _=>false) (fun _=>false) (fun _=>false) false) ::(80,bQ aV Tryz.f80 3 [] (fun d=>Nat.beq d 8) (fun _=>false) (fun _=>false) false) ::(81,bQ aV Tryz.f81 7 [] (fun d=>Nat.beq d 15) (fun _=>false) (fun _=>false) false) ::(84,bQ aV Tryz.f84 275 [] (fun _=>false) (fun _=>false) (fun _=>false) false) ::(82,bQ aV Tryz.f82 131 [] (fun _=>false) (fun _=>false) (fun _=>false) false) ::(86,bQ aV Tryz.f86 7 [] (fun _=>false) (fun _=>false) (fun _=>false) false) ::(85,bQ aV Tryz.f85 271375 [] (fun _=>false) (fun _=>false) (fun _=>false) false) ::(88,bQ aV Tryz.f88 32819 [] (fun _=>false) (fun _=>false) (fun _=>false) false) ::(89,bQ aV Tryz.f89 15 [] (fun _=>false) (fun _=>false) (fun _=>false) false) ::(90,bQ aV Tryz.f90 17180524607 [] (fun _=>false) (fun _=>false) (fun _=>false) false) ::(122,bQ aV Tryz.f122 5 [] (fun _=>false) (fun _=>false) (fun _=>false) false) ::(124,bQ aV Tryz.f124 9316337836119 [] (fun _=>false) (fun _=>false) (fun _=>false) false) ::(126,bQ aV Tryz.f126 5 [] (fun _=>false) (fun _=>false) (fun _=>false) false) ::(83,bQ aV Tryz.f83 2228285 [] (fun _=>false) (fun _=>false) (fun _=>false) false) ::(130,bQ aV Tryz.f130 51 [] (fun _=>false) (fun _=>false) (fun _=>false) false) ::(87,bQ aV Tryz.f87 65587 [] (fun _=>false) (fun _=>false) (fun _=>false) false) ::(132,bQ aV Tryz.f132 23945973599159813139139346461134680183357916012085311 [] (fun _=>false) (fun _=>false) (fun _=>false) false) ::(133,bQ aV Tryz.f133 3 [] (fun d=>Nat.beq d 8) (fun _=>false) (fun _=>false) false) ::(161,bQ aV Tryz.f161 18014398524686365 [] (fun _=>false) (fun _=>false) (fun _=>false) false) ::(128,bQ aV Tryz.f128 324677087359430077278579446644799 [] (fun d=>Nat.beq d 129) (fun _=>false) (fun _=>false) false) ::(131,bQ aV Tryz.f131 19 [] (fun _=>false) (fun _=>false) (fun _=>false) false) ::(171,bQ aV Tryz.f171 3 [] (fun d=>Nat.beq d 23) (fun _=>false) (fun _=>false) false) ::(172,bQ aV Tryz.f172 13 [] (fun _=>false) (fun _=>false) (fun _=>false) false) ::(164,bQ aV Tryz.f164 7 [] (fun d=>Nat.beq d 21) (fun _=>false) (fun _=>false) false) ::(166,bQ aV Tryz.f166 149971 [] (fun _=>false) (fun _=>false) (fun _=>false) false) ::(167,bQ aV Tryz.f167 3 [] (fun d=>Nat.beq d 8) (fun _=>false) (fun _=>false) false) ::(62,bQ aV Tryz.f62 66483 [] (fun _=>false) (fun _=>false) (fun _=>false) false) ::(165,bQ aV Tryz.f165 5 [] (fun _=>false) (fun _=>false) (fun _=>false) false) ::[]
theorem dP:aN Tryz.prog gg:=aN.cons Tryz.func12 (by kernel_rfl) (aN.cons Tryz.func24 (by kernel_rfl) (aN.cons Tryz.func25 (by kernel_rfl) (aN.cons Tryz.func26 (by kernel_rfl) (aN.cons Tryz.func43 (by kernel_rfl) (aN.cons Tryz.func44 (by kernel_rfl) (aN.cons Tryz.func45 (by kernel_rfl) (aN.cons Tryz.func46 (by kernel_rfl) (aN.cons Tryz.func47 (by kernel_rfl) (aN.cons Tryz.func48 (by kernel_rfl) (aN.cons Tryz.func49 (by kernel_rfl) (aN.cons Tryz.func50 (by kernel_rfl) (aN.cons Tryz.func51 (by kernel_rfl) (aN.cons Tryz.func52 (by kernel_rfl) (aN.cons Tryz.func65 (by kernel_rfl) (aN.cons Tryz.func66 (by kernel_rfl) (aN.cons Tryz.func67 (by kernel_rfl) (aN.cons Tryz.func68 (by kernel_rfl) (aN.cons Tryz.func69 (by kernel_rfl) (aN.cons Tryz.func70 (by kernel_rfl) (aN.cons Tryz.func71 (by kernel_rfl) (aN.cons Tryz.func74 (by kernel_rfl) (aN.cons Tryz.func75 (by kernel_rfl) (aN.cons Tryz.func77 (by kernel_rfl) (aN.cons Tryz.func78 (by kernel_rfl) (aN.cons Tryz.func79 (by kernel_rfl) (aN.cons Tryz.func80 (by kernel_rfl) (aN.cons Tryz.func81 (by kernel_rfl) (aN.cons Tryz.func84 (by kernel_rfl) (aN.cons Tryz.func82 (by kernel_rfl) (aN.cons Tryz.func86 (by kernel_rfl) (aN.cons Tryz.func85 (by kernel_rfl) (aN.cons Tryz.func88 (by kernel_rfl) (aN.cons Tryz.func89 (by kernel_rfl) (aN.cons Tryz.func90 (by kernel_rfl) (aN.cons Tryz.func122 (by kernel_rfl) (aN.cons Tryz.func124 (by kernel_rfl) (aN.cons Tryz.func126 (by kernel_rfl) (aN.cons Tryz.func83 (by kernel_rfl) (aN.cons Tryz.func130 (by kernel_rfl) (aN.cons Tryz.func87 (by kernel_rfl) (aN.cons Tryz.func132 (by kernel_rfl) (aN.cons Tryz.func133 (by kernel_rfl) (aN.cons Tryz.func161 (by kernel_rfl) (aN.cons Tryz.func128 (by kernel_rfl) (aN.cons Tryz.func131 (by kernel_rfl) (aN.cons Tryz.func171 (by kernel_rfl) (aN.cons Tryz.func172 (by kernel_rfl) (aN.cons Tryz.func164 (by kernel_rfl) (aN.cons Tryz.func166 (by kernel_rfl) (aN.cons Tryz.func167 (by kernel_rfl) (aN.cons Tryz.func62 (by kernel_rfl) (aN.cons Tryz.func165 (by kernel_rfl) (aN.nil)))))))))))))))))))))))))))))))))))))))))))))))))))))
end Go.AL.Seat
end
noncomputable section
namespace Go.AL.Seat
open Go Go.AL Go.Proofs Go.Pd
set_option maxRecDepth 1000000
def aw1:Str:=[108,101,116,32,120,32,61,32,50,32,105,110,32,97,100,100,40,120,44,32,51,41]
def Dy:AV:=.tup [.lst (.st .token) [⟨5,[108,101,116],0⟩,⟨1,[120],4⟩,⟨6,[61],6⟩,⟨3,[50],8⟩,⟨5,[105,110],10⟩,⟨1,[97,100,100],13⟩,⟨6,[40],16⟩,⟨1,[120],17⟩,⟨6,[44],18⟩,⟨3,[51],20⟩,⟨6,[41],21⟩,⟨0,[],22⟩] none,.agg [.int .i64 0,.int .i64 0]]
def aw2:Str:=[49,40,50,41]
def Dz:AV:=.tup [.lst (.st .token) [⟨3,[49],0⟩,⟨6,[40],1⟩,⟨3,[50],2⟩,⟨6,[41],3⟩,⟨0,[],4⟩] none,.agg [.int .i64 0,.int .i64 0]]
variable [Tabs] [SeatLaid] [SeatPow]
theorem DX:ao Tryz.prog 24 [.str aw1] [] (.ret Dy):=eL (n:=100) mixed gY gX dP (by kernel_rfl:p9 aV gg ma lZ 5000 (dt pa) 100 24 [.str aw1] []=some ⟨none,none,Dy,[]⟩)
theorem DY:ao Tryz.prog 24 [.str aw2] [] (.ret Dz):=eL (n:=100) mixed gY gX dP (by kernel_rfl:p9 aV gg ma lZ 5000 (dt pa) 100 24 [.str aw2] []=some ⟨none,none,Dz,[]⟩)
end Go.AL.Seat
end
noncomputable section
namespace Go.AL.Seat
open Go Go.AL Go.Proofs Go.Pd
set_option maxRecDepth 1000000
def aw3:Str:=[40,102,117,110,32,40,120,58,32,65,110,121,41,32,45,62,32,120,40,120,41,41,40,102,117,110,32,40,120,58,32,65,110,121,41,32,45,62,32,120,40,120,41,41]
def DA:AV:=.tup [.lst (.st .token) [⟨6,[40],0⟩,⟨5,[102,117,110],1⟩,⟨6,[40],5⟩,⟨1,[120],6⟩,⟨6,[58],7⟩,⟨2,[65,110,121],9⟩,⟨6,[41],12⟩,⟨6,[45,62],14⟩,⟨1,[120],17⟩,⟨6,[40],18⟩,⟨1,[120],19⟩,⟨6,[41],20⟩,⟨6,[41],21⟩,⟨6,[40],22⟩,⟨5,[102,117,110],23⟩,⟨6,[40],27⟩,⟨1,[120],28⟩,⟨6,[58],29⟩,⟨2,[65,110,121],31⟩,⟨6,[41],34⟩,⟨6,[45,62],36⟩,⟨1,[120],39⟩,⟨6,[40],40⟩,⟨1,[120],41⟩,⟨6,[41],42⟩,⟨6,[41],43⟩,⟨0,[],44⟩] none,.agg [.int .i64 0,.int .i64 0]]
variable [Tabs] [SeatLaid] [SeatPow]
theorem DZ:ao Tryz.prog 24 [.str aw3] [] (.ret DA):=eL (n:=100) mixed gY gX dP (by kernel_rfl:p9 aV gg ma lZ 5000 (dt pa) 100 24 [.str aw3] []=some ⟨none,none,DA,[]⟩)
end Go.AL.Seat
end
noncomputable section
namespace Go.AL.Seat
open Go Go.AL Go.Proofs Go.Pd
set_option maxRecDepth 1000000
def Cu (s:Str) (p:Int):Trm:=⟨5,[],s,0,[],[],[],[],p⟩
def Cv (n p:Int):Trm:=⟨1,[],[],n,[],[],[],[],p⟩
def tfun (a b c:Int):Trm:=⟨6,[],[],0,[[120]],[],[⟨4,[],[],[],[]⟩],[⟨7,[],[],0,[],[],[],[Cu [120] b,Cu [120] c],b⟩],a⟩
def Bf:Trm:=⟨14,[],[120],0,[],[],[],[Cv 2 8,⟨7,[],[],0,[],[],[],[Cu [97,100,100] 13,Cu [120] 17,Cv 3 20],13⟩],0⟩
def Bg:Trm:=⟨7,[],[],0,[],[],[],[Cv 1 0,Cv 2 2],0⟩
def Bh:Trm:=⟨7,[],[],0,[],[],[],[tfun 1 17 19,tfun 23 39 41],0⟩
def awA (t:Trm):AV:=.tup [.agg [.int .i64 t.kind,.str t.pkg,.str t.name,.int .i64 t.n,.nils,.nils,.nils,.lst (.st .term) t.parts none,.int .i64 t.pos],.agg [.int .i64 0,.int .i64 0]]
variable [Tabs] [SeatLaid] [SeatPow]
def Bi:List (Nat × Pat):=(24,mI [.str aw1] Dy) ::pa
theorem zd:bu Tryz.prog (dt Bi):=sc (jN (ee Tryz.func24) DX) gX
theorem E0:ao Tryz.prog 12 [.str aw1] [] (.ret (awA Bf)):=eL (n:=100) mixed gY zd dP (by kernel_rfl:p9 aV gg ma lZ 5000 (dt Bi) 100 12 [.str aw1] []=some ⟨none,none,awA Bf,[]⟩)
end Go.AL.Seat
end
noncomputable section
namespace Go.AL.Seat
open Go Go.AL Go.Proofs Go.Pd
set_option maxRecDepth 1000000
variable [Tabs] [SeatLaid] [SeatPow]
def Bj:List (Nat × Pat):=(24,mI [.str aw2] Dz) ::pa
theorem ze:bu Tryz.prog (dt Bj):=sc (jN (ee Tryz.func24) DY) gX
theorem E1:ao Tryz.prog 12 [.str aw2] [] (.ret (awA Bg)):=eL (n:=100) mixed gY ze dP (by kernel_rfl:p9 aV gg ma lZ 5000 (dt Bj) 100 12 [.str aw2] []=some ⟨none,none,awA Bg,[]⟩)
end Go.AL.Seat
end
noncomputable section
namespace Go.AL.Seat
open Go Go.AL Go.Proofs Go.Pd
set_option maxRecDepth 1000000
variable [Tabs] [SeatLaid] [SeatPow]
def Bk:List (Nat × Pat):=(24,mI [.str aw3] DA) ::pa
theorem zf:bu Tryz.prog (dt Bk):=sc (jN (ee Tryz.func24) DZ) gX
theorem E2:ao Tryz.prog 12 [.str aw3] [] (.ret (awA Bh)):=eL (n:=100) mixed gY zf dP (by kernel_rfl:p9 aV gg ma lZ 5000 (dt Bk) 100 12 [.str aw3] []=some ⟨none,none,awA Bh,[]⟩)
end Go.AL.Seat
end
noncomputable section
namespace Go.AL.Seat
open Go Go.AL Go.Proofs Go.Pd
set_option maxRecDepth 1000000
mutual
theorem eqT_snd:∀{a b:Trm},eqT a b true=true→a=b
 | ⟨k,g,q,z,ns,vs,ss,ps,pp⟩,⟨k',g',q',z',ns',vs',ss',ps',pp'⟩,h=>by
  simp only [eqT,Bool.and_eq_true,decide_eq_true_eq,Bool.not_true,Bool.false_or] at h
  obtain ⟨⟨⟨⟨⟨⟨⟨⟨rfl,rfl⟩,rfl⟩,rfl⟩,rfl⟩,rfl⟩,rfl⟩,h1⟩,h2⟩:=h
  rw [eqL_eq h1,eqTL_snd h2]
theorem eqTL_snd:∀{a b:List Trm},eqTL a b true=true→a=b
 | [],[],_=>rfl
 | [],_ ::_,h=>by simp [eqTL] at h
 | _ ::_,[],h=>by simp [eqTL] at h
 | a ::r,b ::s,h=>by
  simp only [eqTL,Bool.and_eq_true] at h
  rw [eqT_snd h.1,eqTL_snd h.2]
end
def awR1:Rn:=⟨⟨1,5,[],[],[],[]⟩,1,⟨0,0⟩⟩
def awR2:Rn:=⟨fc,0,⟨291,0⟩⟩
def awR3:Rn:=⟨fc,0,⟨292,39⟩⟩
theorem E3:bk 60 60 Bf 5=some awR1:=by kernel_rfl
theorem E4:bk 60 60 Bg 5=some awR2:=by kernel_rfl
theorem E5:bk 60 60 Bh 9=some awR3:=by kernel_rfl
variable [Tabs] [SeatLaid] [SeatPow]
def runV (r:Rn):AV:=.tup [.st .val r.v,.int .i64 r.st,.st .fault r.f]
theorem ur (n m:Nat):ag Tryz.prog 8 (p2 (.st .term) (.int .i64) fun t k=>⟨some (bj t=true/\(bk n m t k).isSome=true),none,.tup [.st .val (aR (bk n m t k)).v,.int .i64 (aR (bk n m t k)).st,.st .fault (aR (bk n m t k)).f],[]⟩):=
 Cp n m (oW n m (uh n m (lX n) (oV m (oU m))))
def xx (u:Trm) (s:Int) (r:Rn):Pat:=q2 (.st .term) (.int .i64) (fun t k=>eqT t u true && decide (k=s)) fun _ _=>runV r
theorem s9 {u:Trm} {s:Int} {r:Rn} (hf:bj u=true) (h:bk 60 60 u s=some r):ag Tryz.prog 8 (xx u s r):=
 uq (O:=fun t k=>t=u/\k=s) (fY (ee Tryz.func8) fun t k ht hk ho=>by
  obtain ⟨rfl,rfl⟩:=ho _ rfl
  have q:=qp 60 60 t k ht hk hf (by rw [h];rfl) (oW 60 60 (uh 60 60 (lX 60) (oV 60 (oU 60))))
  rw [h] at q
  exact q) fun t k q=>by
  rw [Bool.and_eq_true] at q
  exact ⟨eqT_snd q.1,Xo q.2⟩
end Go.AL.Seat
end
noncomputable section
namespace Go.AL.Seat
open Go Go.AL Go.Proofs
variable [Tabs]
def Bl:List (Nat × TR):=[(35,⟨.strct true [(0,33),(1,3)],2,16,[.int .i64 0,.int .i64 0],some (.st .fault)⟩),(33,r2),(3,r2),(26,⟨.strct false [(0,3),(1,9),(2,9),(3,3),(4,22),(5,22),(6,23),(7,24),(8,3)],9,152,[.int .i64 0,.str [],.str [],.int .i64 0,.nils,.nils,.nils,.nils,.int .i64 0],some (.st .term)⟩),(32,⟨.strct false [(0,3),(1,2),(2,9),(3,9),(4,22),(5,30)],6,96,[.int .i64 0,.int .i64 0,.str [],.str [],.nils,.nils],some (.st .val)⟩),(9,r9),(2,r2),(22,⟨.slice 9,1,24,[.nils],some (.lst .str)⟩),(23,⟨.slice 93,1,24,[.nils],some (.lst (.st .shape))⟩),(31,⟨.strct false [(0,3),(1,2),(2,9),(3,9),(4,22),(5,30)],6,96,[.int .i64 0,.int .i64 0,.str [],.str [],.nils,.nils],none⟩),(30,⟨.slice 32,1,24,[.nils],some (.lst (.st .val))⟩),(34,⟨.strct true [(0,33),(1,3)],2,16,[.int .i64 0,.int .i64 0],none⟩),(25,⟨.strct false [(0,3),(1,9),(2,9),(3,3),(4,22),(5,22),(6,23),(7,24),(8,3)],9,152,[.int .i64 0,.str [],.str [],.int .i64 0,.nils,.nils,.nils,.nils,.int .i64 0],none⟩),(24,⟨.slice 26,1,24,[.nils],some (.lst (.st .term))⟩),(93,⟨.strct false [(0,3),(1,9),(2,9),(3,22),(4,23)],5,88,[.int .i64 0,.str [],.str [],.nils,.nils],some (.st .shape)⟩),(92,⟨.strct false [(0,3),(1,9),(2,9),(3,22),(4,23)],5,88,[.int .i64 0,.str [],.str [],.nils,.nils],none⟩)]
theorem Bm:aK Tryz.prog Bl:=.cons tk (.cons tk (.cons tk (.cons tk (.cons tk (.cons tk (.cons tk (.cons tk (.cons tk (.cons tk (.cons tk (.cons tk (.cons tk (.cons tk (.cons tk (.cons tk (.nil))))))))))))))))
end Go.AL.Seat
end
noncomputable section
namespace Go.AL.Seat
open Go Go.AL Go.Proofs
set_option maxRecDepth 1000000
variable [Tabs]
def DB (f:Nat):List (Option Nat):=[]
def DC (f:Nat):Bool:=false
def uu:List (Nat × FB):=(6,bQ Bl Tryz.f6 40191 [] (fun _=>false) (fun _=>false) (fun _=>false) false) ::[]
theorem uv:aN Tryz.prog uu:=aN.cons Tryz.func6 (by kernel_rfl) (aN.nil)
end Go.AL.Seat
end
noncomputable section
namespace Go.AL.Seat
open Go Go.AL Go.Proofs Go.Pd
set_option maxRecDepth 1000000
variable [Tabs] [SeatLaid] [SeatPow]
def CL:List (Nat × Pat):=[(12,mI [.str aw1] (awA Bf)),(12,mI [.str aw2] (awA Bg)),(12,mI [.str aw3] (awA Bh)),(8,xx Bf 5 awR1),(8,xx Bg 5 awR2),(8,xx Bh 9 awR3)]
theorem Bn:bu Tryz.prog (dt CL):=sc (jN (ee Tryz.func12) E0) (sc (jN (ee Tryz.func12) E1) (sc (jN (ee Tryz.func12) E2) (sc (s9 rfl E3) (sc (s9 rfl E4) (sc (s9 rfl E5) sn)))))
theorem uw:ag Tryz.prog 6 (p0 (.ret (.bool true))):=
 CI (ee Tryz.func6) (eL (n:=2) mixed Bm Bn uv (by kernel_rfl:p9 Bl uu DC DB 50 (dt CL) 2 6 [] []=some ⟨none,none,.bool true,[]⟩))
end Go.AL.Seat
end
