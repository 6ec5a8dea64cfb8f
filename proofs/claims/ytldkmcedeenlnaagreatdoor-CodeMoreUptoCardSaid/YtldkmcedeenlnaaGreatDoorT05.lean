/- Plain facts. The layer: Go code as conditions, and that they are sound. What the functions' conditions say, proved. No condition. -/
import Derived.Test.YtldkmcedeenlnaaGreatDoorT04
import Derived.Lib.ItoaNum
import Derived.LoopN
import Derived.Recover
import Derived.Shelf.Slices.Clone
import Derived.Shelf.Strconv.Itoa0
import Derived.Shelf.Strings.BuilderF
import Derived.Shelf.Strings.OnBuilder
import Derived.Test.YtldkmcedeenlnaaGreatDoorProg
set_option linter.all false
set_option maxRecDepth 100000
noncomputable section
namespace Go.Pd
open Go Go.AL
def tkN (s:Str) (p:Int) (b:Bool):Int × Int × Bool:=
 if b=true∨(aL s p).2.2≠0∨9223372036854775807 < (aL s p).1 then (0,p,true) else ((aL s p).1,(aL s p).2.1,b)
theorem iT {s:Str} {p:Int} {b:Bool} (h:AtS s p):0<=(tkN s p b).1/\(tkN s p b).1<=9223372036854775807/\AtS s (tkN s p b).2.1/\p<=(tkN s p b).2.1/\((tkN s p b).2.2=false→b=false/\p < (tkN s p b).2.1):=by
 obtain ⟨h1,h2,h3⟩:=kM s p
 unfold tkN
 split
 ·exact ⟨by simp,by simp,h,Int.le_refl _,by simp⟩
 ·rename_i k
  obtain ⟨a1,a2,a3⟩:=h3 (Classical.byContradiction fun q=>k (.inr (.inl q)))
  unfold InU at h1
  have:¬(9223372036854775807:Int) < (aL s p).1:=fun q=>k (.inr (.inr q))
  exact ⟨h1.1,by simp only;omega,a2,by simp only;omega,fun q=>⟨q,a3⟩⟩
def dL (s:Str) (p:Int) (b:Bool):Int:=if b=true then 1 else (s.length:Int) - p+2
theorem gP {s:Str} {p:Int} {b:Bool} (h:AtS s p):1<=dL s p b:=by unfold dL AtS at *;split <;> omega
theorem fS {s:Str} {p q:Int} {c:Bool} (h:AtS s p) (hq:AtS s q) (h1:c=false→p < q):dL s q c+1<=dL s p false:=by
 unfold dL AtS at *
 cases c with
 | true=>simp;omega
 | false=>have:=h1 rfl;simp;omega
def toL (s:Str):Nat→Int→List Int→Int→Bool→List Int × Int × Bool
 | 0,_,l,p,_=>(l,p,true)
 | f+1,m,l,p,b=>if 0 < m/\b=false then toL s f (m - 1) (l++[(tkN s p b).1]) (tkN s p b).2.1 (tkN s p b).2.2 else (l,p,b)
def aY (b:Bool) (n:Int):Int:=if b=true then n else 0
theorem GP {s:Str}:∀(f:Nat) (m:Int) (l:List Int) (p:Int) (b:Bool),AtS s p→dL s p b<=f→
  AtS s (toL s f m l p b).2.1/\p<=(toL s f m l p b).2.1/\((toL s f m l p b).2.2=false→b=false)/\((toL s f m l p b).1.length:Int)+p<=l.length+(toL s f m l p b).2.1+aY (!b && (toL s f m l p b).2.2) 1
 | 0,m,l,p,b,h,hf=>by have:=gP (b:=b) h;omega
 | f+1,m,l,p,b,h,hf=>by
  unfold toL
  split
  ·rename_i k
   obtain ⟨k1,rfl⟩:=k
   obtain ⟨a1,a2,a3,a4,a5⟩:=iT (b:=false) h
   have hs:=fS h a3 (fun q=>(a5 q).2)
   obtain ⟨b1,b2,b3,b4⟩:=GP f (m - 1) (l++[(tkN s p false).1]) (tkN s p false).2.1 (tkN s p false).2.2 a3 (by omega)
   refine ⟨b1,by omega,fun _=>rfl,?_⟩
   simp only [List.length_append,List.length_singleton] at b4
   cases hc:(tkN s p false).2.2 with
   | false=>
    have:=(a5 hc).2
    rw [hc] at b4
    simp only [hc] at *
    have e:(!false && (toL s f (m - 1) (l++[(tkN s p false).1]) (tkN s p false).2.1 false).2.2)=(toL s f (m - 1) (l++[(tkN s p false).1]) (tkN s p false).2.1 false).2.2:=by simp
    omega
   | true=>
    rw [hc] at b4 b3
    have e:(toL s f (m - 1) (l++[(tkN s p false).1]) (tkN s p false).2.1 true).2.2=true:=by
     cases hh:(toL s f (m - 1) (l++[(tkN s p false).1]) (tkN s p false).2.1 true).2.2 with
     | true=>rfl
     | false=>exact absurd (b3 hh) (by simp)
    simp only [hc] at b4 b2 ⊢
    rw [e] at b4 ⊢
    simp [aY] at b4 ⊢
    omega
  ·exact ⟨h,Int.le_refl _,fun q=>q,by cases b <;> simp [aY]⟩
def op1 (s:Str) (p:Int) (b:Bool):Int × Int × Bool:=tkN s p b
def op2 (s:Str) (p:Int) (b:Bool):Int × Int × Bool:=tkN s (op1 s p b).2.1 (op1 s p b).2.2
def op3 (s:Str) (p:Int) (b:Bool):Str × Int × Int:=bX s (op2 s p b).2.1
def op4 (s:Str) (p:Int) (b:Bool):List Str × Int × Int:=cR s (op3 s p b).2.1
def op5 (s:Str) (p:Int) (b:Bool):Int × Int × Bool:=tkN s (op4 s p b).2.1 (op2 s p b).2.2
def op6 (s:Str) (p:Int) (b:Bool):List Int × Int × Bool:=toL s (s.length+2) (op5 s p b).1 [] (op5 s p b).2.1 (op5 s p b).2.2
def op7 (s:Str) (p:Int) (b:Bool):Int × Int × Bool:=tkN s (op6 s p b).2.1 (op6 s p b).2.2
def opF (s:Str) (p:Int) (b:Bool):Opn × Int × Bool:=
 if (op2 s p b).2.2=true∨(op3 s p b).2.2≠0 then (⟨(op1 s p b).1,(op2 s p b).1,[],[],[],0⟩,(op2 s p b).2.1,true)
 else if (op4 s p b).2.2≠0 then (⟨(op1 s p b).1,(op2 s p b).1,[],[],[],0⟩,(op2 s p b).2.1,true)
 else (⟨(op1 s p b).1,(op2 s p b).1,(op3 s p b).1,(op4 s p b).1,(op6 s p b).1,(op7 s p b).1⟩,(op7 s p b).2.1,(op7 s p b).2.2)
def wO (o:Opn):Nat:=o.name.length+wL o.names+o.tos.length+1
theorem iU {s:Str} {p:Int} {b:Bool} (h:AtS s p):dL s p b<=((s.length+2:Nat):Int):=by unfold dL AtS at *;split <;> omega
theorem Ia {s:Str} {p:Int} {b:Bool} (h:AtS s p) (k2:(op3 s p b).2.2=0) (k3:(op4 s p b).2.2=0):AtS s (op5 s p b).2.1/\(op5 s p b).1<=9223372036854775807:=by
 obtain ⟨c1,c2,c3⟩:=(mo s (op2 s p b).2.1).1 k2
 obtain ⟨d1,d2,d3⟩:=(vM s (op3 s p b).2.1).1 k3
 obtain ⟨e1,e2,e3,e4,e5⟩:=iT (b:=(op2 s p b).2.2) d2
 exact ⟨e3,e2⟩
theorem GQ {s:Str} {p:Int} {b:Bool} (h:AtS s p):AtS s (opF s p b).2.1/\p<=(opF s p b).2.1/\((opF s p b).2.2=false→b=false/\p < (opF s p b).2.1)/\
  (wO (opF s p b).1:Int)+p<=(opF s p b).2.1+aY (opF s p b).2.2 3:=by
 obtain ⟨a1,a2,a3,a4,a5⟩:=iT (b:=b) h
 obtain ⟨b1,b2,b3,b4,b5⟩:=iT (b:=(op1 s p b).2.2) a3
 have hp:p<=(op2 s p b).2.1:=Int.le_trans a4 b4
 have h3:AtS s (op2 s p b).2.1:=b3
 unfold opF
 refine if k:(op2 s p b).2.2=true∨(op3 s p b).2.2≠0 then ?_ else ?_
 ·rw [if_pos k]
  exact ⟨h3,hp,by simp,by simp [wO,wL,aY];omega⟩
 rw [if_neg k]
 have k1:(op2 s p b).2.2=false:=by
  cases hh:(op2 s p b).2.2 with
  | false=>rfl
  | true=>exact absurd (.inl hh) k
 have k2:(op3 s p b).2.2=0:=Classical.byContradiction fun q=>k (.inr q)
 obtain ⟨c1,c2,c3⟩:=(mo s (op2 s p b).2.1).1 k2
 refine if k3:(op4 s p b).2.2≠0 then ?_ else ?_
 ·rw [if_pos k3]
  exact ⟨h3,hp,by simp,by simp [wO,wL,aY];omega⟩
 rw [if_neg k3]
 obtain ⟨d1,d2,d3⟩:=(vM s (op3 s p b).2.1).1 (Classical.not_not.1 k3)
 obtain ⟨e1,e2,e3,e4,e5⟩:=iT (b:=(op2 s p b).2.2) d2
 have e3:AtS s (op5 s p b).2.1:=e3
 obtain ⟨f1,f2,f3,f4⟩:=GP (s.length+2) (op5 s p b).1 [] (op5 s p b).2.1 (op5 s p b).2.2 e3 (iU e3)
 have f1:AtS s (op6 s p b).2.1:=f1
 obtain ⟨g1,g2,g3,g4,g5⟩:=iT (b:=(op6 s p b).2.2) f1
 have c3:(op2 s p b).2.1+1+((op3 s p b).1.length:Int)<=(op3 s p b).2.1:=c3
 have d3:(op3 s p b).2.1+1+(wL (op4 s p b).1:Int)<=(op4 s p b).2.1:=d3
 have e4:(op4 s p b).2.1<=(op5 s p b).2.1:=e4
 have e5:(op5 s p b).2.2=false→(op2 s p b).2.2=false/\(op4 s p b).2.1 < (op5 s p b).2.1:=e5
 have f2:(op5 s p b).2.1<=(op6 s p b).2.1:=f2
 have f3:(op6 s p b).2.2=false→(op5 s p b).2.2=false:=f3
 have f4:((op6 s p b).1.length:Int)+(op5 s p b).2.1<=0+(op6 s p b).2.1+aY (!(op5 s p b).2.2 && (op6 s p b).2.2) 1:=f4
 have g3:AtS s (op7 s p b).2.1:=g3
 have g4:(op6 s p b).2.1<=(op7 s p b).2.1:=g4
 have g5:(op7 s p b).2.2=false→(op6 s p b).2.2=false/\(op6 s p b).2.1 < (op7 s p b).2.1:=g5
 have b5:(op2 s p b).2.2=false→(op1 s p b).2.2=false/\(op1 s p b).2.1 < (op2 s p b).2.1:=b5
 have a5:(op1 s p b).2.2=false→b=false/\p < (op1 s p b).2.1:=a5
 have hb:b=false:=(a5 (b5 k1).1).1
 have h12:=(a5 (b5 k1).1).2
 have h13:=(b5 k1).2
 refine ⟨g3,by simp only;omega,fun q=>⟨hb,by simp only;omega⟩,?_⟩
 simp only [wO]
 cases hz:(op7 s p b).2.2 with
 | true=>
  have hsl:aY (!(op5 s p b).2.2 && (op6 s p b).2.2) 1<=1:=by unfold aY;split <;> omega
  simp only [aY,if_true]
  omega
 | false=>
  have h7:=g5 hz
  have h6:(op6 s p b).2.2=false:=h7.1
  have h5:=f3 h6
  have h8:=(e5 h5).2
  rw [h6] at f4
  simp [aY] at f4 ⊢
  omega
def ig (s:Str):Nat→Int→List Opn→Int→Bool→List Opn × Int × Bool
 | 0,_,l,p,_=>(l,p,true)
 | f+1,m,l,p,b=>if 0 < m/\b=false then ig s f (m - 1) (l++[(opF s p b).1]) (opF s p b).2.1 (opF s p b).2.2 else (l,p,b)
def wOs (l:List Opn):Nat:=(l.map wO).sum
theorem Aj (a b:List Opn):wOs (a++b)=wOs a+wOs b:=by simp [wOs]
theorem yq (l:List Opn):l.length<=wOs l:=by
 unfold wOs
 induction l with
 | nil=>simp
 | cons x r ih=>simp [wO] at ih ⊢;omega
theorem DV {s:Str}:∀(f:Nat) (m:Int) (l:List Opn) (p:Int) (b:Bool),AtS s p→dL s p b<=f→
  AtS s (ig s f m l p b).2.1/\p<=(ig s f m l p b).2.1/\((ig s f m l p b).2.2=false→b=false)/\(wOs (ig s f m l p b).1:Int)+p<=wOs l+(ig s f m l p b).2.1+aY (!b && (ig s f m l p b).2.2) 3
 | 0,m,l,p,b,h,hf=>by have:=gP (b:=b) h;omega
 | f+1,m,l,p,b,h,hf=>by
  unfold ig
  split
  ·rename_i k
   obtain ⟨k1,rfl⟩:=k
   obtain ⟨a3,a4,a5,a6⟩:=GQ (b:=false) h
   have hs:=fS h a3 (fun q=>(a5 q).2)
   obtain ⟨b1,b2,b3,b4⟩:=DV f (m - 1) (l++[(opF s p false).1]) (opF s p false).2.1 (opF s p false).2.2 a3 (by omega)
   refine ⟨b1,by omega,fun _=>rfl,?_⟩
   rw [Aj] at b4
   have e1:wOs [(opF s p false).1]=wO (opF s p false).1:=by simp [wOs]
   rw [e1] at b4
   cases hc:(opF s p false).2.2 with
   | false=>
    rw [hc] at b4 a6
    simp [aY] at b4 a6 ⊢
    omega
   | true=>
    rw [hc] at b4 b3 a6
    have e:(ig s f (m - 1) (l++[(opF s p false).1]) (opF s p false).2.1 true).2.2=true:=by
     cases hh:(ig s f (m - 1) (l++[(opF s p false).1]) (opF s p false).2.1 true).2.2 with
     | true=>rfl
     | false=>exact absurd (b3 hh) (by simp)
    rw [hc] at b2
    rw [e] at b4 ⊢
    simp [aY] at b4 a6 ⊢
    omega
  ·exact ⟨h,Int.le_refl _,fun q=>q,by cases b <;> simp [aY]⟩
def wC (c:Chnk):Nat:=wOs c.ops+1
def wCs (l:List Chnk):Nat:=(l.map wC).sum
theorem Ak (a b:List Chnk):wCs (a++b)=wCs a+wCs b:=by simp [wCs]
theorem yr (l:List Chnk):l.length<=wCs l:=by
 unfold wCs
 induction l with
 | nil=>simp
 | cons x r ih=>simp [wC] at ih ⊢;omega
def ch1 (s:Str) (p:Int) (b:Bool):Int × Int × Bool:=tkN s p b
def ch2 (s:Str) (p:Int) (b:Bool):Int × Int × Bool:=tkN s (ch1 s p b).2.1 (ch1 s p b).2.2
def ch3 (s:Str) (p:Int) (b:Bool):List Opn × Int × Bool:=ig s (s.length+2) (ch2 s p b).1 [] (ch2 s p b).2.1 (ch2 s p b).2.2
theorem GR {s:Str} {p:Int} {b:Bool} (h:AtS s p):AtS s (ch2 s p b).2.1/\p<=(ch2 s p b).2.1/\((ch2 s p b).2.2=false→b=false/\p+1 < (ch2 s p b).2.1):=by
 obtain ⟨a1,a2,a3,a4,a5⟩:=iT (b:=b) h
 obtain ⟨b1,b2,b3,b4,b5⟩:=iT (b:=(ch1 s p b).2.2) a3
 exact ⟨b3,Int.le_trans a4 b4,fun q=>by
  obtain ⟨c1,c2⟩:=b5 q
  obtain ⟨d1,d2⟩:=a5 c1
  have e1:(ch1 s p b).2.1=(tkN s p b).2.1:=rfl
  have e2:(ch2 s p b).2.1=(tkN s (ch1 s p b).2.1 (ch1 s p b).2.2).2.1:=rfl
  rw [e2]
  have e3:(tkN s (tkN s p b).2.1 (ch1 s p b).2.2).2.1=(tkN s (ch1 s p b).2.1 (ch1 s p b).2.2).2.1:=rfl
  exact ⟨d1,by omega⟩⟩
theorem GS {s:Str} {p:Int} {b:Bool} (h:AtS s p):AtS s (ch3 s p b).2.1/\p<=(ch3 s p b).2.1/\((ch3 s p b).2.2=false→b=false/\p < (ch3 s p b).2.1)/\
  (wC ⟨(ch1 s p b).1,(ch3 s p b).1⟩:Int)+p<=(ch3 s p b).2.1+aY (ch3 s p b).2.2 4:=by
 obtain ⟨a1,a2,a3⟩:=GR (b:=b) h
 obtain ⟨b1,b2,b3,b4⟩:=DV (s.length+2) (ch2 s p b).1 [] (ch2 s p b).2.1 (ch2 s p b).2.2 a1 (iU a1)
 have e1:ig s (s.length+2) (ch2 s p b).1 [] (ch2 s p b).2.1 (ch2 s p b).2.2=ch3 s p b:=rfl
 rw [e1] at b1 b2 b3 b4
 refine ⟨b1,by omega,fun q=>?_,?_⟩
 ·obtain ⟨c1,c2⟩:=a3 (b3 q)
  exact ⟨c1,by omega⟩
 ·unfold wC
  simp only [wOs,List.map_nil,List.sum_nil] at b4 ⊢
  cases hc:(ch3 s p b).2.2 with
  | true=>
   have hsl:aY (!(ch2 s p b).2.2 && (ch3 s p b).2.2) 3<=3:=by unfold aY;split <;> omega
   simp only [aY,if_true]
   omega
  | false=>
   obtain ⟨c1,c2⟩:=a3 (b3 hc)
   rw [hc] at b4
   simp [aY] at b4 ⊢
   omega
def chL (s:Str):Nat→Int→List Chnk→Int→Bool→List Chnk × Int × Bool
 | 0,_,l,p,_=>(l,p,true)
 | f+1,m,l,p,b=>if 0 < m/\b=false then chL s f (m - 1) (l++[⟨(ch1 s p b).1,(ch3 s p b).1⟩]) (ch3 s p b).2.1 (ch3 s p b).2.2 else (l,p,b)
theorem GU {s:Str}:∀(f:Nat) (m:Int) (l:List Chnk) (p:Int) (b:Bool),AtS s p→dL s p b<=f→
  AtS s (chL s f m l p b).2.1/\p<=(chL s f m l p b).2.1/\((chL s f m l p b).2.2=false→b=false)/\(wCs (chL s f m l p b).1:Int)+p<=wCs l+(chL s f m l p b).2.1+aY (!b && (chL s f m l p b).2.2) 4
 | 0,m,l,p,b,h,hf=>by have:=gP (b:=b) h;omega
 | f+1,m,l,p,b,h,hf=>by
  unfold chL
  split
  ·rename_i k
   obtain ⟨k1,rfl⟩:=k
   obtain ⟨a3,a4,a5,a6⟩:=GS (b:=false) h
   have hs:=fS h a3 (fun q=>(a5 q).2)
   obtain ⟨b1,b2,b3,b4⟩:=GU f (m - 1) (l++[⟨(ch1 s p false).1,(ch3 s p false).1⟩]) (ch3 s p false).2.1 (ch3 s p false).2.2 a3 (by omega)
   refine ⟨b1,by omega,fun _=>rfl,?_⟩
   rw [Ak] at b4
   have e1:wCs [(⟨(ch1 s p false).1,(ch3 s p false).1⟩:Chnk)]=wC ⟨(ch1 s p false).1,(ch3 s p false).1⟩:=by simp [wCs]
   rw [e1] at b4
   cases hc:(ch3 s p false).2.2 with
   | false=>
    rw [hc] at b4 a6
    simp [aY] at b4 a6 ⊢
    omega
   | true=>
    rw [hc] at b4 b3 a6
    have e:(chL s f (m - 1) (l++[⟨(ch1 s p false).1,(ch3 s p false).1⟩]) (ch3 s p false).2.1 true).2.2=true:=by
     cases hh:(chL s f (m - 1) (l++[⟨(ch1 s p false).1,(ch3 s p false).1⟩]) (ch3 s p false).2.1 true).2.2 with
     | true=>rfl
     | false=>exact absurd (b3 hh) (by simp)
    rw [hc] at b2
    rw [e] at b4 ⊢
    simp [aY] at b4 a6 ⊢
    omega
  ·exact ⟨h,Int.le_refl _,fun q=>q,by cases b <;> simp [aY]⟩
def mq (s:Str):List Chnk × Int × Bool:=chL s (s.length+2) (tkN s 0 false).1 [] (tkN s 0 false).2.1 (tkN s 0 false).2.2
theorem Ho (s:Str):(mq s).2.2=false→(wCs (mq s).1:Int)<=s.length:=by
 have h0:AtS s 0:=⟨Int.le_refl _,by omega⟩
 obtain ⟨a1,a2,a3,a4,a5⟩:=iT (b:=false) h0
 obtain ⟨b1,b2,b3,b4⟩:=GU (s.length+2) (tkN s 0 false).1 [] (tkN s 0 false).2.1 (tkN s 0 false).2.2 a3 (iU a3)
 have e1:chL s (s.length+2) (tkN s 0 false).1 [] (tkN s 0 false).2.1 (tkN s 0 false).2.2=mq s:=rfl
 rw [e1] at b1 b2 b3 b4
 intro q
 rw [q] at b4
 simp [aY,wCs] at b4 ⊢
 unfold AtS at b1
 omega
def cU (n:Int):Str:=gx (IntKind.u64.wrap n)
theorem df (n:Int):(cU n).length<=9:=kL _
def DW (o:Opn):Str:=cU o.kind++cU o.n++cH o.name++hX o.names++cU o.tos.length
def iH (o:Opn):Str:=DW o++o.tos.flatMap cU++cU o.pos
def FK (c:Chnk):Str:=cU c.args++cU c.ops.length
def kU (c:Chnk):Str:=FK c++c.ops.flatMap iH
def om (l:List Chnk):Str:=cU l.length++l.flatMap kU
theorem DX (l:List Str):(hX l).length<=9+9 *wL l:=by
 unfold hX
 have h:=kL (l.length:Int)
 have:(l.flatMap cH).length<=9 *wL l:=by
  unfold wL
  induction l with
  | nil=>simp
  | cons x r ih=>
   have h9:=kL (x.length:Int)
   have:=ih (kL _)
   simp [cH] at this ⊢
   omega
 rw [List.length_append]
 omega
theorem FL (o:Opn):(iH o).length<=63 *wO o:=by
 have h1:=df o.kind
 have h2:=df o.n
 have h3:=kL (o.name.length:Int)
 have h4:=DX o.names
 have h5:=df (o.tos.length:Int)
 have h6:=df o.pos
 have h7:(o.tos.flatMap cU).length<=9 *o.tos.length:=by
  generalize o.tos=l
  induction l with
  | nil=>simp
  | cons x r ih=>have:=df x;simp at ih ⊢;omega
 unfold iH DW wO cH
 simp only [List.length_append]
 omega
theorem FM (c:Chnk):(kU c).length<=63 *wC c:=by
 have h1:=df c.args
 have h2:=df (c.ops.length:Int)
 have h3:(c.ops.flatMap iH).length<=63 *wOs c.ops:=by
  generalize c.ops=l
  unfold wOs
  induction l with
  | nil=>simp
  | cons x r ih=>have:=FL x;simp at ih ⊢;omega
 unfold kU FK wC
 simp only [List.length_append]
 omega
theorem FN (l:List Chnk):(om l).length<=9+63 *wCs l:=by
 have h1:=df (l.length:Int)
 have h3:(l.flatMap kU).length<=63 *wCs l:=by
  generalize l=l
  unfold wCs
  induction l with
  | nil=>simp
  | cons x r ih=>have:=FM x;simp at ih ⊢;omega
 unfold om
 simp only [List.length_append]
 omega
def prC (l:List Chnk) (k:Nat):Str:=cU l.length++(l.take k).flatMap kU
def prO (c:Chnk) (j:Nat):Str:=FK c++(c.ops.take j).flatMap iH
def prT (o:Opn) (i:Nat):Str:=DW o++(o.tos.take i).flatMap cU
theorem ni {α:Type} (l:List α) (k:Nat) (d:α) (h:k < l.length):l.take (k+1)=l.take k++[l.getD k d]:=by
 rw [List.take_add_one,List.getElem?_eq_getElem h]
 simp [h]
theorem vN {l:List Chnk} {k:Nat} (h:k < l.length):prC l (k+1)=prC l k++kU (l.getD k default):=by
 unfold prC;rw [ni l k default h];simp
theorem vO {c:Chnk} {k:Nat} (h:k < c.ops.length):prO c (k+1)=prO c k++iH (c.ops.getD k default):=by
 unfold prO;rw [ni c.ops k default h];simp
theorem DY {o:Opn} {k:Nat} (h:k < o.tos.length):prT o (k+1)=prT o k++cU (o.tos.getD k 0):=by
 unfold prT;rw [ni o.tos k 0 h];simp
theorem FO (l:List Chnk):prC l l.length=om l:=by unfold prC;rw [List.take_length];rfl
theorem FP (c:Chnk):prO c c.ops.length=kU c:=by unfold prO;rw [List.take_length];rfl
theorem FQ (o:Opn):prT o o.tos.length++cU o.pos=iH o:=by unfold prT;rw [List.take_length];rfl
theorem jy {α β:Type} (f:α→List β) (l:List α) (k:Nat):((l.take k).flatMap f).length<=(l.flatMap f).length:=by
 have e:l.flatMap f=(l.take k).flatMap f++(l.drop k).flatMap f:=by rw [←List.flatMap_append,List.take_append_drop]
 rw [e,List.length_append]
 omega
theorem DZ (l:List Chnk) (k:Nat):(prC l k).length<=(om l).length:=by
 have:=jy kU l k
 unfold prC om;simp only [List.length_append];omega
theorem E0 (c:Chnk) (k:Nat):(prO c k).length<=(kU c).length:=by
 have:=jy iH c.ops k
 unfold prO kU;simp only [List.length_append];omega
theorem Hp (o:Opn) (k:Nat):(prT o k).length<=(iH o).length:=by
 have:=jy cU o.tos k
 unfold prT iH;simp only [List.length_append];omega
theorem vP {l:List Chnk} {k:Nat} (h:k < l.length):(kU (l.getD k default)).length<=(om l).length:=by
 have:=DZ l (k+1)
 rw [vN h,List.length_append] at this
 omega
theorem vQ {c:Chnk} {k:Nat} (h:k < c.ops.length):(iH (c.ops.getD k default)).length<=(kU c).length:=by
 have:=E0 c (k+1)
 rw [vO h,List.length_append] at this
 omega
theorem qC (o:Opn):(cH o.name).length<=(iH o).length/\(hX o.names).length<=(iH o).length/\o.name.length<=(iH o).length:=by
 unfold iH DW
 have:o.name.length<=(cH o.name).length:=by unfold cH;rw [List.length_append];omega
 simp only [List.length_append]
 omega
theorem qD (n:Int):1<=(gx n).length:=by
 unfold gx
 split
 ·simp [gz]
 ·simp [iA,iy]
theorem yt (c:Chnk):c.ops.length<=(kU c).length:=by
 have:c.ops.length<=(c.ops.flatMap iH).length:=by
  generalize c.ops=l
  induction l with
  | nil=>simp
  | cons x r ih=>
   have:1<=(iH x).length:=by
    have:=qD (IntKind.u64.wrap x.pos)
    unfold iH cU
    simp only [List.length_append]
    omega
   simp only [List.flatMap_cons,List.length_append,List.length_cons]
   omega
 unfold kU
 simp only [List.length_append]
 omega
theorem qE (o:Opn):o.tos.length<=(iH o).length:=by
 have:o.tos.length<=(o.tos.flatMap cU).length:=by
  generalize o.tos=l
  induction l with
  | nil=>simp
  | cons x r ih=>
   have:=qD (IntKind.u64.wrap x)
   simp only [List.flatMap_cons,List.length_append,List.length_cons]
   unfold cU at ih ⊢
   omega
 unfold iH
 simp only [List.length_append]
 omega
theorem ud (l:List Str):l.length<=(hX l).length:=by
 unfold hX
 have:l.length<=(l.flatMap cH).length:=by
  induction l with
  | nil=>simp
  | cons x r ih=>
   have:=qD (x.length:Int)
   simp [cH] at ih ⊢
   omega
 rw [List.length_append]
 omega
end Go.Pd
end
noncomputable section
namespace Go.Pd
open Go Go.AL
def is8 (k:Int):Bool:=decide (k=1) || decide (k=4) || decide (k=6) || decide (k=7) || decide (k=11) || decide (k=13) || decide (k=14) || decide (k=15)
def isB (k:Int):Bool:=decide (k=9) || decide (k=10)
def isU (k:Int):Bool:=decide (k=17) || decide (k=18)
def isR (k:Int):Bool:=decide (k=8) || decide (k=16)
def is6 (k:Int):Bool:=decide (k=1) || decide (k=2) || decide (k=3) || decide (k=4) || decide (k=6) || decide (k=5)
def is4 (k:Int):Bool:=decide (k=9) || decide (k=10) || decide (k=17) || decide (k=18)
def is2 (k:Int):Bool:=decide (k=12) || decide (k=14)
def toN (o:Opn):Int:=if o.kind=16 then o.names.length else 0
def mr (n d a:Bool) (o:Opn):Bool:=
 !((!n && (!decide (o.n=0) || decide (o.kind=3) || decide (o.kind=5))) || (!d && (!decide (o.name=[]) || decide (17<=o.kind) || decide (o.kind=9) || decide (o.kind=10)))) &&
 ((a || decide (o.names.length=0)) && decide ((o.tos.length:Int)=toN o) && decide (0<=o.pos))
def kN (o:Opn):Bool:=
 if is8 o.kind=true then mr (decide (0<=o.n)) false false o
 else if o.kind=3 then mr (decide (o.n=0) || decide (o.n=1)) false false o
 else if o.kind=5 then mr (decide (o.n=110)) false false o
 else if o.kind=2 then mr false true false o
 else if isB o.kind=true then mr false (aH o.name) false o
 else if isU o.kind=true then mr false (eF o.name) false o
 else if isR o.kind=true then mr false false (fR o.names) o
 else if o.kind=12 then mr false false false o
 else false
def iV (o:Opn):Int × Int:=
 if is6 o.kind=true then (0,1)
 else if o.kind=7 then (IntKind.i64.wrap (o.n+1),1)
 else if o.kind=8 then (o.names.length,1)
 else if o.kind=11 then (o.n,1)
 else if is4 o.kind=true then (1,1)
 else if o.kind=16 then (if o.names.length=0 then (1,1) else (1,0))
 else if is2 o.kind=true then (1,0)
 else (0,0)
def eqT (x y:Stt):Bool:=decide (x.things=y.things) && decide (x.names=y.names)
def cz (l:List Stt) (tgt:Int) (s:Stt):List Stt:=if (l.getD tgt.toNat default).things < 0 then l.set tgt.toNat s else l
def cI (l:List Stt) (tgt:Int) (s:Stt):Bool:=eqT ((cz l tgt s).getD tgt.toNat default) s
theorem dU (l:List Stt) (tgt:Int) (s:Stt):(cz l tgt s).length=l.length:=by unfold cz;split <;> simp
def GV (l:List Stt) (n:Nat):List (Nat × SObj):=[(900,.box (.arr 901 n 2)),(901,.box (.row (.st .stt) l))]
def GW (l:List Stt) (n:Nat) (tgt:Int) (s:Stt):Ans:=⟨some (0<=tgt/\tgt < n/\n=l.length),none,.bool (cI l tgt s),GV (cz l tgt s) n⟩
def E1:Pat:=fun args S=>
 match args,S with
 | [.int .i64 tgt,a,.ptr 900 0],[(900,.box (.arr 901 n 2)),(901,.box (.row (.st .stt) l))]=>(match arg (.st .stt) a with | some s=>some (GW l n tgt s) | none=>none)
 | _,_=>none
theorem E2 [Tabs] {P:Program} {f:Nat} (he:ax P f) (h:∀(l:List Stt) (n:Nat) (tgt:Int) (s:Stt),0<=tgt/\tgt < n/\n=l.length→aD P f [.int .i64 tgt,.st .stt s,.ptr 900 0] (GV l n) (GW l n tgt s)):ag P f E1:=by
 intro args S A hA ho _
 unfold E1 at hA
 split at hA
 ·split at hA
  ·rename_i s hs
   simp only [Xs] at hA
   subst hA
   exact ⟨he,aD.args (.cons (Rd.refl _) (.cons (Rd.arg hs) (.cons (Rd.refl _) .nil))) (h _ _ _ _ (ho _ rfl))⟩
  ·cases hA
 ·cases hA
def pd (l:List Stt) (i:Int) (s:Stt) (goes:Bool) (bs:List Stt):Bool × List Stt × List Stt:=if goes=true then (cI l (i+1) s,cz l (i+1) s,bs) else (false,l,bs)
def jz (i:Int) (n:Nat) (s:Stt):List Int→List Stt→Bool × List Stt
 | [],l=>(true,l)
 | tgt ::r,l=>if tgt<=i∨(n:Int) < tgt∨cI l tgt s=false then (false,l) else jz i n s r (cz l tgt s)
def s1F (o:Opn) (s:Stt):Stt:=⟨IntKind.i64.wrap (s.things+IntKind.i64.wrap ((iV o).2 - (iV o).1)),s.names⟩
def vR (code:List Chnk) (o:Opn) (s:Stt):Stt:=⟨0,IntKind.i64.wrap (s.names+(code.getD o.n.toNat default).args)⟩
def gK (code:List Chnk) (k:Int) (b0:Stt) (n:Nat) (i:Int) (o:Opn) (l bs:List Stt):Bool:=
 if o.kind=4 then decide (o.n < (l.getD i.toNat default).names)
 else if o.kind=6 then !(decide (o.n<=k) || decide ((code.length:Int)<=o.n)) && !(decide (0<=(bs.getD o.n.toNat default).things) && !eqT (bs.getD o.n.toNat default) (vR code o (l.getD i.toNat default)))
 else if o.kind=13 then !decide (IntKind.i64.wrap ((l.getD i.toNat default).names - b0.names) < o.n)
 else if o.kind=15∨o.kind=14 then decide (i < o.n) && decide (o.n<=(n:Int)) && cI l o.n (s1F o (l.getD i.toNat default))
 else if o.kind=16/\o.tos.length≠0 then (jz i n ⟨(s1F o (l.getD i.toNat default)).things,IntKind.i64.wrap ((l.getD i.toNat default).names+1)⟩ o.tos l).1
 else true
def gF (code:List Chnk) (k:Int) (b0:Stt) (n:Nat) (i:Int) (o:Opn) (l bs:List Stt):Bool:=
 if (l.getD i.toNat default).things < 0∨kN o=false∨(l.getD i.toNat default).things < (iV o).1 then false else gK code k b0 n i o l bs
def lF (n:Nat) (i:Int) (o:Opn) (l:List Stt):List Stt:=
 if (o.kind=15∨o.kind=14)/\i < o.n/\o.n<=(n:Int) then cz l o.n (s1F o (l.getD i.toNat default))
 else if o.kind=16/\o.tos.length≠0 then (jz i n ⟨(s1F o (l.getD i.toNat default)).things,IntKind.i64.wrap ((l.getD i.toNat default).names+1)⟩ o.tos l).2
 else l
def sF (n:Nat) (i:Int) (o:Opn) (l:List Stt):Stt:=
 if o.kind=12 then ⟨(s1F o (l.getD i.toNat default)).things,IntKind.i64.wrap ((l.getD i.toNat default).names+1)⟩
 else if o.kind=13 then ⟨(s1F o (l.getD i.toNat default)).things,IntKind.i64.wrap ((l.getD i.toNat default).names - o.n)⟩
 else if o.kind=15∨o.kind=16/\o.tos.length≠0 then (lF n i o l).getD (i+1).toNat default
 else s1F o (l.getD i.toNat default)
def bF (code:List Chnk) (k:Int) (b0:Stt) (n:Nat) (i:Int) (o:Opn) (l bs:List Stt):List Stt:=
 if o.kind=6/\gF code k b0 n i o l bs=true then bs.set o.n.toNat (vR code o (l.getD i.toNat default)) else bs
def sh (code:List Chnk) (k:Int) (b0:Stt) (n:Nat) (i:Int) (o:Opn) (l bs:List Stt):Bool × List Stt × List Stt:=
 pd (lF n i o l) i (sF n i o l) (gF code k b0 n i o l bs) (bF code k b0 n i o l bs)
def jI (code:List Chnk) (k:Int) (b0:Stt) (n:Nat):List Opn→Int→List Stt→List Stt→Bool × List Stt
 | [],_,l,bs=>(eqT (l.getD n default) ⟨1,b0.names⟩,bs)
 | o ::r,i,l,bs=>
  if (sh code k b0 n i o l bs).1=true then jI code k b0 n r (i+1) (sh code k b0 n i o l bs).2.1 (sh code k b0 n i o l bs).2.2 else (false,(sh code k b0 n i o l bs).2.2)
theorem nW (i:Int) (n:Nat) (s:Stt):∀(t:List Int) (l:List Stt),(jz i n s t l).2.length=l.length
 | [],l=>rfl
 | tgt ::r,l=>by
  unfold jz
  split
  ·rfl
  ·rw [nW i n s r,dU]
theorem si (n:Nat) (i:Int) (o:Opn) (l:List Stt):(lF n i o l).length=l.length:=by
 unfold lF
 split
 ·exact dU _ _ _
 ·split
  ·exact nW _ _ _ _ _
  ·rfl
theorem nj (code:List Chnk) (k:Int) (b0:Stt) (n:Nat) (i:Int) (o:Opn) (l bs:List Stt):(bF code k b0 n i o l bs).length=bs.length:=by
 unfold bF
 split <;> simp
theorem Al {code:List Chnk} {k:Int} {b0:Stt} {n:Nat} {i:Int} {o:Opn} {l bs:List Stt} (r:List Opn) (h:gF code k b0 n i o l bs=false):jI code k b0 n (o ::r) i l bs=(false,bs):=by
 have e:bF code k b0 n i o l bs=bs:=by unfold bF;rw [if_neg (fun z=>by rw [h] at z;cases z.2)]
 unfold jI sh pd
 simp only [h,e]
 rfl
theorem yu {code:List Chnk} {k:Int} {b0:Stt} {n:Nat} {i:Int} {o:Opn} {l bs:List Stt} (r:List Opn) (h:gF code k b0 n i o l bs=true) :
  jI code k b0 n (o ::r) i l bs=if cI (lF n i o l) (i+1) (sF n i o l)=true then jI code k b0 n r (i+1) (cz (lF n i o l) (i+1) (sF n i o l)) (bF code k b0 n i o l bs) else (false,bF code k b0 n i o l bs):=by
 rw [jI]
 unfold sh pd
 simp only [h,if_true]
theorem E3 (l:List Stt) (t:Nat):l.set t (l.getD t default)=l:=by
 by_cases h:t < l.length
 ·have e:l.getD t default=l[t]:=by simp [h]
  rw [e,List.set_getElem_self]
 ·exact List.set_eq_of_length_le (by omega)
theorem sj (l:List Stt) (t:Int):cz l t (l.getD t.toNat default)=l/\cI l t (l.getD t.toNat default)=true:=by
 have e:cz l t (l.getD t.toNat default)=l:=by
  unfold cz
  split
  ·exact E3 _ _
  ·rfl
 refine ⟨e,?_⟩
 unfold cI eqT
 rw [e]
 simp
theorem vS {code:List Chnk} {k:Int} {b0:Stt} {n:Nat} {i:Int} {o:Opn} {l bs:List Stt} (r:List Opn) (h:gF code k b0 n i o l bs=true) (hs:sF n i o l=(lF n i o l).getD (i+1).toNat default) :
  jI code k b0 n (o ::r) i l bs=jI code k b0 n r (i+1) (lF n i o l) (bF code k b0 n i o l bs):=by
 rw [yu r h,hs,(sj _ _).1,(sj _ _).2,if_pos rfl]
def gI (code:List Chnk) (k:Int):Chnk:=code.getD k.toNat default
def bY (code:List Chnk) (k:Int):Nat:=(gI code k).ops.length
def fG (m j:Nat):List Stt:=List.replicate j ⟨-1,0⟩++List.replicate (m - j) ⟨0,0⟩
def cO (code:List Chnk) (k:Int) (bs:List Stt):Bool × List Stt:=
 if cI (fG (bY code k+1) (bY code k+1)) 0 (bs.getD k.toNat default)=true then
  jI code k (bs.getD k.toNat default) (bY code k) (gI code k).ops 0 (cz (fG (bY code k+1) (bY code k+1)) 0 (bs.getD k.toNat default)) bs
 else (false,bs)
theorem fc {m j:Nat} (h:j<=m):(fG m j).length=m:=by simp [fG];omega
theorem sk {m j:Nat} (h:j < m):(fG m j).getD j default=⟨0,0⟩:=by
 unfold fG
 rw [List.getD_eq_getElem?_getD,List.getElem?_append_right (by simp)]
 simp [List.getElem?_replicate,show 0 < m - j by omega]
theorem vT {m j:Nat} (h:j < m) (d:Stt):(fG m j).set j ⟨-1,0⟩=fG m (j+1):=by
 unfold fG
 rw [List.set_append_right _ _ (by simp)]
 have e:m - j=(m - (j+1))+1:=by omega
 rw [e,List.replicate_succ]
 simp [List.replicate_succ',List.append_assoc]
theorem rL (code:List Chnk) (k:Int) (bs:List Stt):(cO code k bs).2.length=bs.length:=by
 have h:∀(b0:Stt) (n:Nat) (r:List Opn) (i:Int) (l bs:List Stt),(jI code k b0 n r i l bs).2.length=bs.length:=by
  intro b0 n r
  induction r with
  | nil=>intro i l bs;rfl
  | cons o r ih=>
   intro i l bs
   cases hg:gF code k b0 n i o l bs with
   | false=>rw [Al r hg]
   | true=>
    rw [yu r hg]
    split
    ·rw [ih,nj]
    ·exact nj _ _ _ _ _ _ _ _
 unfold cO
 split
 ·exact h _ _ _ _ _ _
 ·rfl
def FR (code:List Chnk) (k:Int) (bs:List Stt) (n:Nat):Prop:=
 0<=k/\k < (code.length:Int)/\bs.length=code.length/\n=code.length/\bY code k<=4096/\∀o∈(gI code k).ops,o.names.length *16<=140737488355328/\o.tos.length<=140737488355328
def chkS (code:List Chnk) (bs:List Stt) (n:Nat):List (Nat × SObj):=[(900,.box (.agg [.lst (.st .chunk) code none,.arr 901 n 2])),(901,.box (.row (.st .stt) bs))]
def chkA (code:List Chnk) (k:Int) (bs:List Stt) (n:Nat):Ans:=⟨some (FR code k bs n),none,.bool (cO code k bs).1,chkS code (cO code k bs).2 n⟩
def Hq:Pat:=fun args S=>
 match args,S with
 | [.ptr 900 0,.int .i64 k],[(900,.box (.agg [.lst (.st .chunk) code none,.arr 901 n 2])),(901,.box (.row (.st .stt) bs))]=>some (chkA code k bs n)
 | _,_=>none
theorem FT [Tabs] {P:Program} {f:Nat} (he:ax P f) (h:∀(code:List Chnk) (k:Int) (bs:List Stt) (n:Nat),FR code k bs n→aD P f [.ptr 900 0,.int .i64 k] (chkS code bs n) (chkA code k bs n)):ag P f Hq:=by
 intro args S A hA ho _
 unfold Hq at hA
 split at hA
 ·simp only [Xs] at hA
  subst hA
  exact ⟨he,h _ _ _ _ (ho _ rfl)⟩
 ·cases hA
def FU (S0:St) (i j:Nat) (f:List Stt→Stt→LA):LA:=
 match aj S0.b i,aj S0.b j with
 | some (.box (.row (.st .stt) l)),some (.box c)=>(match arg (.st .stt) c with | some s=>f l s | none=>⟨Nat,fun _=>False,fun _=>[],fun _=>[],fun _=>0⟩)
 | _,_=>⟨Nat,fun _=>False,fun _=>[],fun _=>[],fun _=>0⟩
def Hr (S0:St) (f:Int→List Stt→List Stt→List (Nat × AV) × List (Nat × SObj)):List (Nat × AV) × List (Nat × SObj):=
 match aI S0.t 55,aj S0.b 37,aj S0.b 901 with
 | .int _ i,some (.box (.row (.st .stt) l)),some (.box (.row (.st .stt) bs))=>f i l bs
 | _,_,_=>([],[])
def qF (l:List Chnk):Prop:=(om l).length<=8796093022208
def dM:List Chnk→Int→Bool
 | [],_=>true
 | c ::r,z=>if c.args < 0∨4096 < c.args∨4096 - z < (c.ops.length:Int) then false else dM r (z+c.ops.length)
def bg0 (n:Nat) (scope:Int):List Stt:=(fG n n).set 0 ⟨0,scope⟩
def nk (code:List Chnk):Nat→Nat→List Stt→Bool
 | 0,_,_=>true
 | r+1,k,bs=>if (bs.getD k default).things < 0 then false else if (cO code k bs).1=true then nk code r (k+1) (cO code k bs).2 else false
def nq (code:List Chnk) (scope:Int):Int:=
 if scope < 0∨1000000 < scope∨code.length=0∨4096 < code.length∨(code.getD 0 default).args≠0 then 310
 else if dM code 0=false then 310
 else if nk code code.length 0 (bg0 code.length scope)=true then 0 else 310
theorem yw (n:Nat) (scope:Int):(bg0 n scope).length=n:=by unfold bg0;rw [List.length_set,fc (Nat.le_refl _)]
theorem Am {α:Type} (l:List α) (k:Nat) (d:α) (h:k < l.length):l.getD k d=l[k]:=by rw [List.getD_eq_getElem?_getD,List.getElem?_eq_getElem h];rfl
theorem FV {l:List Chnk} (h:qF l) {c:Chnk} (hc:c∈l) {o:Opn} (ho:o∈c.ops):o.names.length *16<=140737488355328/\o.tos.length<=140737488355328:=by
 have a:(kU c).length<=(om l).length:=by
  obtain ⟨k,hk,e⟩:=List.mem_iff_getElem.1 hc
  have a:=vP hk
  rw [Am _ _ _ hk,e] at a
  exact a
 have b:(iH o).length<=(kU c).length:=by
  obtain ⟨k,hk,e⟩:=List.mem_iff_getElem.1 ho
  have a:=vQ hk
  rw [Am _ _ _ hk,e] at a
  exact a
 have d:=(qC o).2.1
 have e:=ud o.names
 have f:=qE o
 unfold qF at h
 omega
end Go.Pd
end
section
namespace Go.Pd
open Go.AL
def p0 (A:Ans):Pat
 | [],[]=>some A
 | _,_=>none
theorem Ib [Tabs] {P:Program} {f:Nat} {A:Ans} (he:ax P f) (h:aD P f [] [] A):ag P f (p0 A):=by
 intro args S A' hA _ _
 unfold p0 at hA
 split at hA
 ·simp only [Xs] at hA
  subst hA
  exact ⟨he,h⟩
 ·cases hA
end Go.Pd
end
noncomputable section
namespace Go.Pd
open Go Go.AL
def Hs (s:Str) (p:Int) (b:Bool):List (Nat × SObj):=[(900,.box (.agg [.str s,.int .i64 p,.bool b]))]
def FW (F:Str→Int→Bool→Ans):Pat:=fun args S=>
 match args,S with
 | [.ptr 900 0],[(900,.box (.agg [.str s,.int .i64 p,.bool b]))]=>some (F s p b)
 | _,_=>none
theorem Ao [Tabs] {P:Program} {f:Nat} {F:Str→Int→Bool→Ans} (he:ax P f)
  (h:∀s p b,(∀q,(F s p b).ob=some q→q)→aD P f [.ptr 900 0] (Hs s p b) (F s p b)):ag P f (FW F):=by
 intro args S A hA ho _
 unfold FW at hA
 split at hA
 ·simp only [Xs] at hA
  subst hA
  exact ⟨he,h _ _ _ ho⟩
 ·cases hA
def tkA (s:Str) (p:Int) (b:Bool):Ans:=⟨none,none,.int .i64 (tkN s p b).1,Hs s (tkN s p b).2.1 (tkN s p b).2.2⟩
def opA (s:Str) (p:Int) (b:Bool):Ans:=⟨some (AtS s p/\s.length<=68719476736),none,.st .op (opF s p b).1,Hs s (opF s p b).2.1 (opF s p b).2.2⟩
def FX (S0:St) (i:Nat) (f:Int→Bool→LA):LA:=match aj S0.b i with | some (.box (.agg [.str _,.int .i64 p,.bool b]))=>f p b | _=>⟨Nat,fun _=>False,fun _=>[],fun _=>[],fun _=>0⟩
def FY (S0:St) (i:Nat) (f:Int→LA):LA:=match aj S0.b i with | some (.box (.agg [.int .i64 a,_]))=>f a | _=>⟨Nat,fun _=>False,fun _=>[],fun _=>[],fun _=>0⟩
def ko (l:List Chnk):Str × Int:=if nq l 1000≠0 then ([],310) else (om l,0)
def kV (s:Str):List Chnk × Int:=
 if (mq s).2.2=true∨(mq s).2.1≠s.length then ([],310) else if (ko (mq s).1).2≠0∨(ko (mq s).1).1≠s then ([],310) else ((mq s).1,0)
end Go.Pd
end
noncomputable section
namespace Go.Pd
open Go Go.AL
theorem eqN {a b:Nat} (h:¬(!decide ((a:Int)=(b:Int)))=true):a=b:=by
 simp at h
 omega
def cP {α:Type} (f:α→α→Bool):List α→List α→Bool
 | a ::r,b ::t=>f a b && cP f r t
 | _,_=>true
def kq (a b:List Str):Bool:=decide (a.length=b.length) && cP (fun x y=>decide (x=y)) a b
def fD (x y:Opn):Bool:=
 decide (x.kind=y.kind) && decide (x.n=y.n) && decide (x.name=y.name) && decide (x.pos=y.pos) && decide (x.tos.length=y.tos.length) && (cP (fun x y=>decide (x=y)) x.tos y.tos && kq x.names y.names)
def iW (c d:Chnk):Bool:=decide (c.args=d.args) && decide (c.ops.length=d.ops.length) && cP fD c.ops d.ops
def qG (a b:List Chnk):Bool:=decide (a.length=b.length) && cP iW a b
theorem kO {α:Type} {f:α→α→Bool} (h:∀x,f x x=true):∀l:List α,cP f l l=true
 | []=>rfl
 | a ::r=>by unfold cP;rw [h,kO h r];rfl
theorem mu {α:Type} (f:α→α→Bool) (l:List α):cP f [] l=true:=by cases l <;> rfl
theorem zipE {α:Type} [DecidableEq α] (l:List α):cP (fun x y=>decide (x=y)) l l=true:=kO (f:=fun x y=>decide (x=y)) (fun x=>Xd rfl) l
theorem vU (l:List Str):kq l l=true:=by unfold kq;rw [zipE];simp
theorem yx (x:Opn):fD x x=true:=by unfold fD;rw [zipE,vU];simp
theorem yy (c:Chnk):iW c c=true:=by unfold iW;rw [kO yx];simp
theorem yz (l:List Chnk):qG l l=true:=by unfold qG;rw [kO yy];simp
theorem kP {α:Type} (f:α→α→Bool) (a b:List α) (k:Nat) (d:α) (h:k < a.length) (h2:k < b.length) :
  cP f (a.drop k) (b.drop k)=(f (a.getD k d) (b.getD k d) && cP f (a.drop (k+1)) (b.drop (k+1))):=by
 rw [bp a k d h,bp b k d h2];rfl
end Go.Pd
end
section
namespace Go.AL
open Go.Shelf Go.Proofs Go.RowKit
variable [Tabs] {P:Program} {ρ:Ren}
theorem After.newRow {w w':World} {pub:Nat→Nat→Prop} {e:Nat→Option CObj} (hp:jG w pub) (hd:∀id,e id=none) (hb:Below w.heap.size w w') {g:Nat} (hg:w.heap.size<=g) {p:Nat→Prop} (hc:∀o,p o→∃v,w'.cell? ⟨g,o,none⟩=some v) :
  After w pub e (aj (bP [] [])) w' (fun b o=>pub b o∨(b=g/\p o)) e where
 os:=hb.os
 tape:=hb.tape
 output:=hb.output
 size:=hb.size
 block b h _:=hb.block b h
 cell b o h _:=ai (hb.block b h) o
 kind b h _:=⟨aU (hb.block b h),fun o=>aK (hb.block b h) o⟩
 ext:=⟨fun _ c h=>⟨c,h,CLe.refl c⟩,fun _ _ h=>.inl h,fun b o h=>by obtain ⟨v,hv⟩:=hp b o h;exact ai (hb.block b (aQ hv)) o⟩
 fresh b o h:=by
  rcases h with h | ⟨rfl,_⟩
  ·exact .inl h
  ·exact .inr (.inl hg)
 ok b o h:=by
  rcases h with h | ⟨rfl,h⟩
  ·obtain ⟨v,hv⟩:=hp b o h;exact ⟨v,(ai (hb.block b (aQ hv)) o).trans hv⟩
  ·exact hc o h
 slots id o h:=by simp [bP,aJ,aF] at h
 dom id _:=hd id
 inj i j c d b o h:=by rw [hd i] at h;cases h
theorem vV (L:Lays2.n16 P ρ) (l:List Str) (hb:l.length *16<=140737488355328) {ob:Option Prop}:aD P (ρ.f 16) [.lst .str l none] [] ⟨ob,none,.lst .str l none,[]⟩:=by
 intro w pub e vs hp ht hv hs hd hi
 have he:e=fun _=>none:=funext fun id=>hd id rfl
 subst he
 obtain ⟨v,rfl,hV⟩:=hv.one_inv
 cases hV with
 | lstNil _ _ tok=>
  refine (Any.slices_Clone_string_nil L 0 0 w).mono ?_
  rintro en w' ⟨rfl,rfl⟩
  exact ⟨pub,_,fun b pv u h=>(by cases h),.lstNil _ _ tok,After.below hp (fun _=>rfl) (Below.refl _ _)⟩
 | lstVoid _ a=>
  refine (Any.slices_Clone_string_zero L a 0 w).mono ?_
  rintro en w' ⟨v',rfl,⟨hl,hrow⟩,hn,hbw⟩
  refine ⟨pub,_,fun b pv u h=>(by cases h),?_,After.below hp (fun _=>rfl) hbw⟩
  rcases hrow with ⟨rfl,hz⟩ | ⟨g,cap,cur,rfl,hbase,hg,h1,h2,h3,h4⟩
  ·exact absurd rfl hn
  ·exact .lst .str [] none g 0 cap (fun _ _=>.bool false) (Nat.zero_le _) (by unfold maxLen at h2;unfold aT;omega) (fun id h=>by cases h) (fun i x hx=>by cases hx) (fun i x hx=>by cases hx)
 | lst _ _ _ b off cap vals h1 h2 tok hcell hval=>
  have at_:∀i (hi:i < l.length),w.cell? ⟨b,off+i,none⟩=some (.string ⟨l[i].toArray⟩)/\l[i].length<=aT:=fun i hi=>by
   have hx:l[i]?=some l[i]:=List.getElem?_eq_getElem hi
   obtain ⟨_,c1⟩:=hcell i l[i] hx 0 (.str l[i]) rfl
   have c2:=hval i l[i] hx 0 (.str l[i]) rfl
   obtain ⟨c3,c4⟩:=c2.str_inv
   rw [c3,show off+(i *ab .str+0)=off+i by rw [show ab .str=1 from rfl];omega] at c1
   exact ⟨c1,c4⟩
  refine (Any.slices_Clone_string L b off l.length cap (l.map fun s=>(⟨s.toArray⟩:ByteArray)) w (by simp) hb (fun j hj=>?_)).mono ?_
  ·have hj':j < l.length:=by simpa using hj
   rw [(at_ j hj').1,List.getD_eq_getElem?_getD,List.getElem?_map,List.getElem?_eq_getElem hj']
   rfl
  rintro en w' ⟨v',rfl,⟨hl,hrow⟩,hn,hbw⟩
  rcases hrow with ⟨rfl,hz⟩ | ⟨g,cap',cur,rfl,hbase,hg,k1,k2,k3,k4⟩
  ·exact absurd rfl hn
  have hcur:∀i (hi:i < l.length),cur[i]?=some (.string ⟨l[i].toArray⟩):=fun i hi=>by
   have:(cur.toList.take (l.length *1))[i]?=some (.string ⟨l[i].toArray⟩):=by
    rw [k4,List.getElem?_map,List.getElem?_take]
    simp [hi]
   rw [List.getElem?_take] at this
   split at this
   ·simpa using this
   ·cases this
  refine ⟨fun b o=>pub b o∨(b=g/\o < l.length),_,fun b pv u h=>(by cases h),?_,After.newRow hp (fun _=>rfl) hbw hbase (p:=fun o=>o < l.length) (fun o ho=>⟨_,by rw [al hg];exact hcur o ho⟩)⟩
  refine .lst .str l none g 0 cap' (fun i _=>.string ⟨(l.getD i []).toArray⟩) k1 (by unfold maxLen at k2;unfold aT;omega) (fun id h=>by cases h) (fun i x hx j c hc=>?_) (fun i x hx j c hc=>?_)
  ·obtain ⟨hi,rfl⟩:=List.getElem?_eq_some_iff.1 hx
   have hj:j=0:=by
    cases j with
    | zero=>rfl
    | succ j=>simp [cells] at hc
   subst hj
   rw [show 0+(i *ab .str+0)=i by rw [show ab .str=1 from rfl];omega]
   refine ⟨.inr ⟨rfl,hi⟩,?_⟩
   show w'.cell? ⟨g,i,none⟩=_
   rw [al hg,hcur i hi,List.getD_eq_getElem?_getD,List.getElem?_eq_getElem hi]
   rfl
  ·obtain ⟨hi,rfl⟩:=List.getElem?_eq_some_iff.1 hx
   have hj:j=0:=by
    cases j with
    | zero=>rfl
    | succ j=>simp [cells] at hc
   subst hj
   have e1:c=.str l[i]:=by simpa [cells] using hc.symm
   subst e1
   rw [List.getD_eq_getElem?_getD,List.getElem?_eq_getElem hi]
   exact .str _ (at_ i hi).2
def vW:Pat:=p1 (.lst .str) fun l=>⟨some (l.length *16<=140737488355328),none,.lst .str l none,[]⟩
theorem vX {f:Nat} (L:Lays2.n16 P ρ) (hf:ρ.f 16=f) (he:ax P f):ag P f vW:=by
 subst hf
 exact bK he fun l _ ho=>vV L l (ho _ rfl)
end Go.AL
end
noncomputable section
namespace Go.Pd
open Go Go.AL
def nm0 (s:Str):Nam:=⟨[],s⟩
def jH (sc:List Nam) (t:Trm):Nat→Opn
 | 0=>⟨5,110,[],[],[],t.pos⟩
 | k+1=>if (sc.getD k default).pkg=t.pkg/\(sc.getD k default).name=t.name then ⟨4,(sc.length:Int) - 1 - k,[],[],[],t.pos⟩ else jH sc t k
def kr (sc:List Nam) (t:Trm):Opn:=jH sc t sc.length
def iz (t:Trm):Opn × Bool:=
 if t.kind=7 then (⟨7,(t.parts.length:Int) - 1,[],[],[],t.pos⟩,true)
 else if t.kind=8 then (⟨8,0,[],t.names,[],t.pos⟩,true)
 else if t.kind=9 then (⟨9,0,t.name,[],[],t.pos⟩,true)
 else if t.kind=10 then (⟨10,0,t.name,[],[],t.pos⟩,true)
 else if t.kind=11 then (⟨11,t.parts.length,[],[],[],t.pos⟩,true)
 else if t.kind=16 then (⟨17,0,t.name,[],[],t.pos⟩,true)
 else if t.kind=17 then (⟨18,0,t.name,[],[],t.pos⟩,true)
 else (default,false)
def qH (ops:List Opn) (k n:Int):List Opn:=ops.set k.toNat {(ops.getD k.toNat default) with n:=n}
def so (ops:List Opn) (k:Int) (l:List Int):List Opn:=ops.set k.toNat {(ops.getD k.toNat default) with tos:=l}
def eH (n:Int):List Int→List Opn→List Opn
 | [],ops=>ops
 | k ::r,ops=>eH n r (qH ops k n)
abbrev CS:=List Opn × List Chnk
def ij (T:Trm→List Nam→CS→CS) (sc:List Nam):List Trm→CS→CS
 | [],s=>s
 | t ::r,s=>ij T sc r (T t sc s)
def kW (T:Trm→List Nam→CS→CS) (t:Trm) (sc:List Nam) (s:CS):CS:=
 let r:=T (t.parts.getD 0 default) (sc++t.names.map nm0) ([],s.2++[⟨t.names.length,[]⟩])
 (s.1,r.2.set s.2.length {(r.2.getD s.2.length default) with ops:=r.1})
def iX (T:Trm→List Nam→CS→CS) (t:Trm) (sc:List Nam):Nat→Nat→List Int→List Int→CS→List Int × List Int × CS
 | 0,_,to_,js,s=>(to_,js,s)
 | k+1,i,to_,js,s=>
  let r:=T (t.parts.getD (i+1) default) (sc++[nm0 (t.vars.getD i [])]) s
  iX T t sc k (i+1) (to_++[(s.1.length:Int)]) (js++[(r.1.length:Int)+1]) (r.1++[⟨13,1,[],[],[],t.pos⟩,⟨15,0,[],[],[],t.pos⟩],r.2)
def oq (T:Trm→List Nam→CS→CS) (t:Trm) (sc:List Nam) (s:CS):CS:=
 let a:=T (t.parts.getD 0 default) sc s
 let r:=iX T t sc t.names.length 0 [] [] (a.1++[⟨16,0,[],t.names,[],t.pos⟩],a.2)
 (eH r.2.2.1.length r.2.1 (so r.2.2.1 a.1.length r.1),r.2.2.2)
def qI (T:Trm→List Nam→CS→CS) (t:Trm) (sc:List Nam) (s:CS):CS:=
 let a:=T (t.parts.getD 0 default) sc s
 let b:=T (t.parts.getD 1 default) sc (a.1++[⟨14,0,[],[],[],t.pos⟩],a.2)
 let o:=b.1++[⟨15,0,[],[],[],t.pos⟩]
 let c:=T (t.parts.getD 2 default) sc (qH o a.1.length o.length,b.2)
 (qH c.1 b.1.length c.1.length,c.2)
def yA (T:Trm→List Nam→CS→CS) (t:Trm) (sc:List Nam) (s:CS):CS:=
 let a:=T (t.parts.getD 0 default) sc s
 let b:=T (t.parts.getD 1 default) (sc++[nm0 t.name]) (a.1++[⟨12,0,[],[],[],t.pos⟩],a.2)
 (b.1++[⟨13,1,[],[],[],t.pos⟩],b.2)
def vY (T:Trm→List Nam→CS→CS) (t:Trm) (sc:List Nam) (s:CS):CS:=
 let a:=ij T sc t.parts s
 if (iz t).2=true then (a.1++[(iz t).1],a.2) else a
def iY (T:Trm→List Nam→CS→CS) (t:Trm) (sc:List Nam) (s:CS):CS:=
 if t.kind=1 then (s.1++[⟨1,t.n,[],[],[],t.pos⟩],s.2)
 else if t.kind=2 then (s.1++[⟨2,0,t.name,[],[],t.pos⟩],s.2)
 else if t.kind=3 then (s.1++[⟨3,1,[],[],[],t.pos⟩],s.2)
 else if t.kind=4 then (s.1++[⟨3,0,[],[],[],t.pos⟩],s.2)
 else if t.kind=5 then (s.1++[kr sc t],s.2)
 else if t.kind=6 then ((kW T t sc s).1++[⟨6,s.2.length,[],[],[],t.pos⟩],(kW T t sc s).2)
 else if t.kind=12 then qI T t sc s
 else if t.kind=13 then oq T t sc s
 else if t.kind=14 then yA T t sc s
 else vY T t sc s
def aM:Nat→Trm→List Nam→CS→CS
 | 0,_,_,s=>s
 | n+1,t,sc,s=>iY (aM n) t sc s
def kX (W:Trm→Nat) (l:List Trm):Nat:=(l.map W).sum
def qJ (W:Trm→Nat) (t:Trm):Nat:=
 if t.kind=1∨t.kind=2∨t.kind=3∨t.kind=4∨t.kind=5∨t.kind=6 then 0
 else if t.kind=12 then W (t.parts.getD 0 default)+W (t.parts.getD 1 default)+W (t.parts.getD 2 default)
 else if t.kind=13 then W (t.parts.getD 0 default)+kX (fun i=>W i+1) ((List.range t.names.length).map fun i=>t.parts.getD (i+1) default)
 else if t.kind=14 then W (t.parts.getD 0 default)+W (t.parts.getD 1 default)+1
 else kX W t.parts
def wN:Nat→Trm→Nat
 | 0,_=>0
 | n+1,t=>qJ (wN n) t
end Go.Pd
namespace Go.AL
open Go
theorem Wf.pt [Tabs] {n:SN} {x:SD n} (h:Wf (.pt n) (some x)):Wf (.st n) x:=by
 obtain ⟨Ω,v,hv⟩:=h
 cases hv with
 | ptSome _ _ _ hc=>
  cases hc with
  | cptr _ b off vals h1 h2=>
   refine ⟨Ω,.agg ((List.range (cells (.st n) x).length).map vals).toArray,.st n x _ (.agg _ _ (by simp) fun j c v hc hv=>?_)⟩
   have hlt:j < (cells (.st n) x).length:=by
    rcases Nat.lt_or_ge j (cells (.st n) x).length with q | q
    ·exact q
    ·rw [List.getElem?_eq_none q] at hc;cases hc
   rw [List.getElem?_map,List.getElem?_range hlt] at hv
   simp only [Option.map_some,Xs] at hv
   rw [←hv]
   exact h2 j c hc
end Go.AL
namespace Go.Pd
open Go Go.AL
theorem rdC [Tabs] {n:SN} {c:AV} {x:SD n} (h:arg (.st n) c=some x):Rd (.cptr c) (.cptr (.st n x)):=by
 intro Ω v hv
 have hr:=lk (.st n) h
 cases hv with
 | cptr _ b off vals h1 h2=>
  have key:∀(j:Nat) (d:AV),(cells (.st n) x)[j]?=some d→∃c',(ae c)[j]?=some c'/\Rd c' d:=fun j d hd=>by
   have hlt:j < (ae c).length:=by
    rw [hr.1]
    rcases Nat.lt_or_ge j (cells (.st n) x).length with q | q
    ·exact q
    ·rw [List.getElem?_eq_none q] at hd;cases hd
   exact ⟨_,List.getElem?_eq_getElem hlt,hr.2 j _ d (List.getElem?_eq_getElem hlt) hd⟩
  refine .cptr _ b off vals (fun j d hd=>?_) (fun j d hd=>?_)
  ·obtain ⟨c',hc,_⟩:=key j d hd
   exact h1 j c' hc
  ·obtain ⟨c',hc,r⟩:=key j d hd
   exact r _ _ (h2 j c' hc)
theorem wfC [Tabs] {n:SN} {x:SD n} (h:∃Ω v,V Ω (.cptr (.st n x)) v):Wf (.st n) x:=by
 obtain ⟨Ω,v,h⟩:=h
 exact Wf.pt ⟨Ω,v,.ptSome _ _ _ h⟩
def jA (s:Nat) (sc:List Nam) (x:CS):List (Nat × SObj):=
 [(900,.box (.agg [.glst x.1.length x.1.length 901,.glst s sc.length 902,.ptr 903 0])),(901,.grow (.st .op) x.1.length x.1),(902,.grow (.st .nm) s sc),(903,.box (.glst x.2.length x.2.length 904)),(904,.grow (.st .chunk) x.2.length x.2)]
def ik (F:Nat→List Nam→CS→Trm→Ans):Pat:=fun args S=>
 match args,S with
 | [.ptr 900 0,.cptr a],[(900,.box (.agg [.glst s1 n1 901,.glst s n 902,.ptr 903 0])),(901,.grow (.st .op) s1' xs),(902,.grow (.st .nm) s' sc),(903,.box (.glst s3 n3 904)),(904,.grow (.st .chunk) s3' ch)]=>
  (match arg (.st .term) a with
  | some t=>some {F s' sc (xs,ch) t with ob:=some ((s1=xs.length/\n1=xs.length/\s1'=xs.length)/\(s=s'/\n=sc.length)/\(s3=ch.length/\n3=ch.length/\s3'=ch.length)/\∀q,(F s' sc (xs,ch) t).ob=some q→q)}
  | none=>none)
 | _,_=>none
theorem kQ [Tabs] {P:Program} {f:Nat} {F:Nat→List Nam→CS→Trm→Ans} (he:ax P f) (h:∀s sc x t,Wf (.st .term) t→(∀q,(F s sc x t).ob=some q→q)→aD P f [.ptr 900 0,.cptr (.st .term t)] (jA s sc x) (F s sc x t)):ag P f (ik F):=by
 intro args S A hA ho _
 unfold ik at hA
 split at hA
 ·split at hA
  ·rename_i t ht
   simp only [Xs] at hA
   subst hA
   obtain ⟨⟨rfl,rfl,rfl⟩,⟨rfl,rfl⟩,⟨rfl,rfl,rfl⟩,hb⟩:=ho _ rfl
   exact ⟨he,aD.args (.cons (Rd.refl _) (.cons (rdC ht) .nil)) (aD.wf fun hw=>h _ _ _ _ (wfC hw.cons.2.cons.1) hb)⟩
  ·cases hA
 ·cases hA
def pCp (F:Trm→Ans):Pat:=fun args S=>
 match args,S with
 | [.cptr a],[]=>(match arg (.st .term) a with | some t=>some (F t) | none=>none)
 | _,_=>none
theorem Ht [Tabs] {P:Program} {f:Nat} {F:Trm→Ans} (he:ax P f) (h:∀t,Wf (.st .term) t→(∀q,(F t).ob=some q→q)→aD P f [.cptr (.st .term t)] [] (F t)):ag P f (pCp F):=by
 intro args S A hA ho _
 unfold pCp at hA
 split at hA
 ·split at hA
  ·rename_i t ht
   simp only [Xs] at hA
   subst hA
   exact ⟨he,aD.args (.cons (rdC ht) .nil) (aD.wf fun hw=>h _ (wfC hw.cons.1) ho)⟩
  ·cases hA
 ·cases hA
def FZ (F:Nat→List Nam→CS→Str→Trm→Ans):Pat:=fun args S=>
 match args,S with
 | [.ptr 900 0,.str nm,.cptr a],[(900,.box (.agg [.glst s1 n1 901,.glst s n 902,.ptr 903 0])),(901,.grow (.st .op) s1' xs),(902,.grow (.st .nm) s' sc),(903,.box (.glst s3 n3 904)),(904,.grow (.st .chunk) s3' ch)]=>
  (match arg (.st .term) a with
  | some t=>some {F s' sc (xs,ch) nm t with ob:=some ((s1=xs.length/\n1=xs.length/\s1'=xs.length)/\(s=s'/\n=sc.length)/\(s3=ch.length/\n3=ch.length/\s3'=ch.length)/\∀q,(F s' sc (xs,ch) nm t).ob=some q→q)}
  | none=>none)
 | _,_=>none
theorem G0 [Tabs] {P:Program} {f:Nat} {F:Nat→List Nam→CS→Str→Trm→Ans} (he:ax P f) (h:∀s sc x nm t,Wf (.st .term) t→(∀q,(F s sc x nm t).ob=some q→q)→aD P f [.ptr 900 0,.str nm,.cptr (.st .term t)] (jA s sc x) (F s sc x nm t)):ag P f (FZ F):=by
 intro args S A hA ho _
 unfold FZ at hA
 split at hA
 ·split at hA
  ·rename_i t ht
   simp only [Xs] at hA
   subst hA
   obtain ⟨⟨rfl,rfl,rfl⟩,⟨rfl,rfl⟩,⟨rfl,rfl,rfl⟩,hb⟩:=ho _ rfl
   exact ⟨he,aD.args (.cons (Rd.refl _) (.cons (Rd.refl _) (.cons (rdC ht) .nil))) (aD.wf fun hw=>h _ _ _ _ _ (wfC hw.cons.2.cons.2.cons.1) hb)⟩
  ·cases hA
 ·cases hA
def Ap (F:Nat→List Nam→CS→List Trm→Ans):Pat:=fun args S=>
 match args,S with
 | [.ptr 900 0,a],[(900,.box (.agg [.glst s1 n1 901,.glst s n 902,.ptr 903 0])),(901,.grow (.st .op) s1' xs),(902,.grow (.st .nm) s' sc),(903,.box (.glst s3 n3 904)),(904,.grow (.st .chunk) s3' ch)]=>
  (match arg (.lst (.st .term)) a with
  | some l=>some {F s' sc (xs,ch) l with ob:=some ((s1=xs.length/\n1=xs.length/\s1'=xs.length)/\(s=s'/\n=sc.length)/\(s3=ch.length/\n3=ch.length/\s3'=ch.length)/\∀q,(F s' sc (xs,ch) l).ob=some q→q)}
  | none=>none)
 | _,_=>none
theorem E4 [Tabs] {P:Program} {f:Nat} {F:Nat→List Nam→CS→List Trm→Ans} (he:ax P f) (h:∀s sc x l,Wf (.lst (.st .term)) l→(∀q,(F s sc x l).ob=some q→q)→aD P f [.ptr 900 0,.lst (.st .term) l none] (jA s sc x) (F s sc x l)):ag P f (Ap F):=by
 intro args S A hA ho _
 unfold Ap at hA
 split at hA
 ·split at hA
  ·rename_i l hl
   simp only [Xs] at hA
   subst hA
   obtain ⟨⟨rfl,rfl,rfl⟩,⟨rfl,rfl⟩,⟨rfl,rfl,rfl⟩,hb⟩:=ho _ rfl
   exact ⟨he,aD.args (.cons (Rd.refl _) (.cons (Rd.arg hl) .nil)) (aD.wf fun hw=>h _ _ _ _ hw.two hb)⟩
  ·cases hA
 ·cases hA
def gy (t:Trm):Bool:=decide (t.names.length<=1048576) &&
 (if t.kind=6 then decide (1<=t.parts.length) else if t.kind=12 then decide (3<=t.parts.length) else if t.kind=13 then decide (t.names.length+1<=t.parts.length) && decide (t.names.length<=t.vars.length) else if t.kind=14 then decide (2<=t.parts.length) else true)
def CmO (n:Nat) (sc:List Nam) (x:CS) (t:Trm):Prop:=szT t<=n/\allT gy t=true/\x.1.length+4000000 *szT t<=1000000000000/\sc.length+2000000 *szT t<=1000000000000/\x.2.length+szT t<=1000000000000
def CmL (n:Nat) (sc:List Nam) (x:CS) (l:List Trm):Prop:=szTL l<=n/\(∀t∈l,allT gy t=true)/\x.1.length+4000000 *szTL l<=1000000000000/\sc.length+2000000 *szTL l<=1000000000000/\x.2.length+szTL l<=1000000000000
def ue (W:Trm→Nat) (t:Trm) (i:Nat):Nat:=kX (fun u=>W u+1) ((List.range i).map fun j=>t.parts.getD (j+1) default)
def vZ (n:Nat) (t:Trm) (sc:List Nam) (x:CS):CS:=((aM n (t.parts.getD 0 default) sc x).1++[⟨16,0,[],t.names,[],t.pos⟩],(aM n (t.parts.getD 0 default) sc x).2)
def w8 (n:Nat) (t:Trm) (sc:List Nam) (x:CS) (i:Nat) (js:List Int) (y:CS):Prop:=
 y.1.length+4000000 *(szTL (t.parts.drop (i+1)))+(t.names.length - i) *2<=1000000000000/\y.2.length+szTL (t.parts.drop (i+1))<=1000000000000/\(vZ n t sc x).1.length<=y.1.length/\∀j∈js,0<=j/\j < (y.1.length:Int)
def G1 (S0:St) (f:List Int→Nat→CS→LA):LA:=
 match aI S0.t 91,aj S0.b 900,aj S0.b 901,aj S0.b 904 with
 | .lst (.int .i64) js _,some (.box (.agg [_,.glst s _ _,_])),some (.grow (.st .op) _ ops),some (.grow (.st .chunk) _ ch)=>f js s (ops,ch)
 | _,_,_,_=>⟨Nat,fun _=>False,fun _=>[],fun _=>[],fun _=>0⟩
def cmA (n s:Nat) (sc:List Nam) (x:CS) (t:Trm):Ans:=⟨some (CmO n sc x t),none,.tup [],jA (s+2 *wN n t) sc (aM n t sc x)⟩
def CmK (n k:Nat) (sc:List Nam) (x:CS) (t:Trm):Prop:=t.kind=k/\CmO (n+1) sc x t
def wK (n:Nat) (t:Trm):Nat:=qJ (wN n) t
def Hu (n s:Nat) (sc:List Nam) (x:CS) (t:Trm):Ans:=⟨some (CmK n 6 sc x t),none,.int .i64 x.2.length,jA s sc (kW (aM n) t sc x)⟩
def Hv (n s:Nat) (sc:List Nam) (x:CS) (t:Trm):Ans:=⟨some (CmK n 12 sc x t),none,.tup [],jA (s+2 *wK n t) sc (qI (aM n) t sc x)⟩
def Hw (n s:Nat) (sc:List Nam) (x:CS) (t:Trm):Ans:=⟨some (CmK n 13 sc x t),none,.tup [],jA (s+2 *wK n t) sc (oq (aM n) t sc x)⟩
def Hx (n s:Nat) (sc:List Nam) (x:CS) (nm:Str) (t:Trm):Ans:=⟨some (CmO n (sc++[nm0 nm]) x t),none,.tup [],jA (s+2 *(wN n t+1)) sc (aM n t (sc++[nm0 nm]) x)⟩
def E5 (n s:Nat) (sc:List Nam) (x:CS) (l:List Trm):Ans:=⟨some (CmL n sc x l),none,.tup [],jA (s+2 *kX (wN n) l) sc (ij (aM n) sc l x)⟩
def Hy:Pat:=fun args S=>
 match args,S with
 | [.glst s n 900],[(900,.grow (.st .nm) s' sc)]=>some ⟨some ((s=s'/\n=sc.length)/\sc.length *32<=140737488355328),none,.glst sc.length sc.length 5,[(5,.grow (.st .nm) sc.length sc)]⟩
 | _,_=>none
theorem G2 [Tabs] {P:Program} {f:Nat} (he:ax P f) (h:∀(s:Nat) (sc:List Nam),sc.length *32<=140737488355328→aD P f [.glst s sc.length 900] [(900,.grow (.st .nm) s sc)] ⟨none,none,.glst sc.length sc.length 5,[(5,.grow (.st .nm) sc.length sc)]⟩):ag P f Hy:=by
 intro args S A hA ho _
 unfold Hy at hA
 split at hA
 ·simp only [Xs] at hA
  subst hA
  obtain ⟨⟨rfl,rfl⟩,hb⟩:=ho _ rfl
  exact ⟨he,h _ _ hb⟩
 ·cases hA
def nmB (b:Bndg):Nam:=⟨b.pkg,b.name⟩
def ch0:List Chnk:=[⟨0,[]⟩]
def yB (n:Nat) (t:Trm) (l:List Bndg):List Chnk:=let r:=aM n t (l.map nmB) ([],ch0);r.2.set 0 {(r.2.getD 0 default) with ops:=r.1}
def yC (n:Nat) (t:Trm) (l:List Bndg):Prop:=cv t=true/\l.length<=1000000/\(cw t=0→CmO n (l.map nmB) ([],ch0) t)
def comA (n:Nat) (t:Trm) (l:List Bndg):Ans:=⟨some (yC n t l),none,.tup [.lst (.st .chunk) (if cw t≠0 then [] else yB n t l) none,.int .i64 (cw t)],[]⟩
def wrS (s:Nat) (xs:List Opn):List (Nat × SObj):=[(900,.box (.agg [.glst s xs.length 901])),(901,.grow (.st .op) s xs)]
def wrA (s n s':Nat) (xs ys:List Opn):Ans:=⟨some ((s=s'/\n=xs.length)/\(xs.length+ys.length) *88<=140737488355328),none,.int .i64 ((xs.length:Int)+ys.length - 1),
 [(900,.box (.glst (s'+ys.length) (xs++ys).length 901)),(901,.grow (.st .op) (s'+ys.length) (xs++ys))]⟩
def Hz:Pat:=fun args S=>
 match args,S with
 | [.ptr 900 0,a],[(900,.box (.agg [.glst s n 901])),(901,.grow (.st .op) s' xs)]=>(match arg (.lst (.st .op)) a with | some ys=>some (wrA s n s' xs ys) | none=>none)
 | _,_=>none
theorem G3 [Tabs] {P:Program} {f:Nat} (he:ax P f) (h:∀(s:Nat) (xs ys:List Opn),(xs.length+ys.length) *88<=140737488355328→aD P f [.ptr 900 0,.lst (.st .op) ys none] (wrS s xs) (wrA s xs.length s xs ys)):ag P f Hz:=by
 intro args S A hA ho _
 unfold Hz at hA
 split at hA
 ·split at hA
  ·rename_i ys hy
   simp only [Xs] at hA
   subst hA
   obtain ⟨⟨rfl,rfl⟩,hb⟩:=ho _ rfl
   exact ⟨he,aD.args (.cons (Rd.refl _) (.cons (Rd.arg hy) .nil)) (h _ _ _ hb)⟩
  ·cases hA
 ·cases hA
def hrA (s n s':Nat) (xs:List Opn):Ans:=⟨some (s=s'/\n=xs.length),none,.int .i64 xs.length,[(900,.box (.agg [.glst s xs.length 901])),(901,.grow (.st .op) s xs)]⟩
def E6:Pat:=fun args S=>
 match args,S with
 | [.ptr 900 0],[(900,.box (.agg [.glst s n 901])),(901,.grow (.st .op) s' xs)]=>some (hrA s n s' xs)
 | _,_=>none
theorem E7 [Tabs] {P:Program} {f:Nat} (he:ax P f) (h:∀(s:Nat) (xs:List Opn),aD P f [.ptr 900 0] (wrS s xs) (hrA s xs.length s xs)):ag P f E6:=by
 intro args S A hA ho _
 unfold E6 at hA
 split at hA
 ·simp only [Xs] at hA
  subst hA
  obtain ⟨rfl,rfl⟩:=ho _ rfl
  exact ⟨he,h _ _⟩
 ·cases hA
end Go.Pd
end
noncomputable section
namespace Go.Pd
open Go Go.AL
def Bd (x y:CS) (c e:Nat):Prop:=x.1.length<=y.1.length/\y.1.length<=x.1.length+4000000 *c+e/\x.2.length<=y.2.length/\y.2.length<=x.2.length+c
theorem Bd.refl (x:CS):Bd x x 0 0:=⟨Nat.le_refl _,by omega,Nat.le_refl _,by omega⟩
theorem Bd.trans {x y z:CS} {a b d e:Nat} (h:Bd x y a d) (g:Bd y z b e):Bd x z (a+b) (d+e):=by
 obtain ⟨h1,h2,h3,h4⟩:=h
 obtain ⟨g1,g2,g3,g4⟩:=g
 refine ⟨by omega,by rw [Nat.mul_add];omega,by omega,by omega⟩
theorem Bd.more {x y:CS} {a d a' d':Nat} (h:Bd x y a d) (ha:a<=a') (hd:4000000 *a+d<=4000000 *a'+d'):Bd x y a' d':=by
 obtain ⟨h1,h2,h3,h4⟩:=h
 exact ⟨h1,by omega,h3,by omega⟩
theorem Bd.app (x:CS) (l:List Opn):Bd x (x.1++l,x.2) 0 l.length:=by
 refine ⟨?_,?_,Nat.le_refl _,Nat.le_refl _⟩ <;> simp only [List.length_append] <;> omega
theorem fE (o:List Opn) (k n:Int):(qH o k n).length=o.length:=by simp [qH]
theorem iZ (o:List Opn) (k:Int) (l:List Int):(so o k l).length=o.length:=by simp [so]
theorem lH (n:Int):∀(l:List Int) (o:List Opn),(eH n l o).length=o.length
 | [],o=>rfl
 | k ::r,o=>by rw [eH,lH n r,fE]
theorem ib {l:List Trm} {i:Nat} (h:i < l.length):l.getD i default∈l:=by
 rw [List.getD_eq_getElem?_getD,List.getElem?_eq_getElem h]
 exact List.getElem_mem h
theorem bw {l:List Trm} {i:Nat} (h:i < l.length):szTL (l.drop i)=szT (l.getD i default)+szTL (l.drop (i+1)):=by
 rw [List.drop_eq_getElem_cons h,szTL,List.getD_eq_getElem?_getD,List.getElem?_eq_getElem h]
 rfl
theorem j7 {f:Trm→Bool} {t x:Trm} (h:allT f t=true) (hx:x∈t.parts):allT f x=true:=by
 rw [allT_eq,Bool.and_eq_true,allTL_all] at h
 exact List.all_eq_true.1 h.2 x hx
theorem bM {f:Trm→Bool} {t:Trm} (h:allT f t=true):f t=true:=by
 rw [allT_eq,Bool.and_eq_true] at h;exact h.1
theorem ic {t:Trm} (h:gy t=true):t.names.length<=1048576:=by
 unfold gy at h
 rw [Bool.and_eq_true] at h
 exact Xo h.1
theorem E8 {t:Trm} (h:gy t=true) (k:t.kind=6):1<=t.parts.length:=by
 unfold gy at h
 rw [Bool.and_eq_true,if_pos k] at h
 exact Xo h.2
theorem Aq {t:Trm} (h:gy t=true) (k:t.kind=12):3<=t.parts.length:=by
 unfold gy at h
 rw [Bool.and_eq_true,if_neg (by omega),if_pos k] at h
 exact Xo h.2
theorem mv {t:Trm} (h:gy t=true) (k:t.kind=13):t.names.length+1<=t.parts.length/\t.names.length<=t.vars.length:=by
 unfold gy at h
 rw [Bool.and_eq_true,if_neg (by omega),if_neg (by omega),if_pos k,Bool.and_eq_true] at h
 exact ⟨Xo h.2.1,Xo h.2.2⟩
theorem Ar {t:Trm} (h:gy t=true) (k:t.kind=14):2<=t.parts.length:=by
 unfold gy at h
 rw [Bool.and_eq_true,if_neg (by omega),if_neg (by omega),if_neg (by omega),if_pos k] at h
 exact Xo h.2
def HT (T:Trm→List Nam→CS→CS) (n:Nat):Prop:=∀t sc x,szT t<=n→allT gy t=true→Bd x (T t sc x) (szT t) 0
theorem HT.part {T:Trm→List Nam→CS→CS} {n:Nat} (H:HT T n) {t:Trm} (hs:szTL t.parts<=n) (ho:allT gy t=true) {i:Nat} (hi:i < t.parts.length) (sc:List Nam) (x:CS):Bd x (T (t.parts.getD i default) sc x) (szT (t.parts.getD i default)) 0:=
 H _ sc x (Nat.le_trans (fB (ib hi)) hs) (j7 ho (ib hi))
theorem oL {T:Trm→List Nam→CS→CS} {n:Nat} (H:HT T n) (sc:List Nam):∀(l:List Trm) (x:CS),szTL l<=n→(∀t∈l,allT gy t=true)→Bd x (ij T sc l x) (szTL l) 0
 | [],x,_,_=>Bd.refl x
 | t ::r,x,hs,ho=>by
  rw [szTL] at hs
  rw [ij,szTL]
  exact (H t sc x (by omega) (ho t (List.mem_cons_self ..))).trans (oL H sc r _ (by omega) (fun u hu=>ho u (List.mem_cons_of_mem _ hu)))
theorem As {T:Trm→List Nam→CS→CS} {n:Nat} (H:HT T n) {t:Trm} (hs:szTL t.parts<=n) (ho:allT gy t=true) (hk:t.kind=6) (sc:List Nam) (x:CS):(kW T t sc x).1=x.1/\x.2.length+1<=(kW T t sc x).2.length/\(kW T t sc x).2.length<=x.2.length+1+szTL t.parts:=by
 have h1:=E8 (bM ho) hk
 obtain ⟨_,_,g3,g4⟩:=H.part hs ho (i:=0) (by omega) (sc++t.names.map nm0) ([],x.2++[⟨t.names.length,[]⟩])
 have e:=fB (ib (l:=t.parts) (i:=0) (by omega))
 rw [List.length_append,List.length_singleton] at g3 g4
 refine ⟨rfl,?_,?_⟩
 ·show _<=(List.set _ _ _).length
  rw [List.length_set];exact g3
 ·show (List.set _ _ _).length<=_
  rw [List.length_set];omega
theorem Au {T:Trm→List Nam→CS→CS} {n:Nat} (H:HT T n) {t:Trm} (hs:szTL t.parts<=n) (ho:allT gy t=true) (sc:List Nam):∀(k i:Nat) (ts js:List Int) (x:CS),i+1+k<=t.parts.length→Bd x (iX T t sc k i ts js x).2.2 (szTL (t.parts.drop (i+1))) (2 *k)
 | 0,i,ts,js,x,_=>by
  rw [iX]
  exact Bd.more (a:=0) (d:=0) (Bd.refl x) (Nat.zero_le _) (by omega)
 | k+1,i,ts,js,x,h=>by
  rw [iX,bw (by omega)]
  have h1:=H.part hs ho (i:=i+1) (by omega) (sc++[nm0 (t.vars.getD i [])]) x
  exact ((h1.trans (Bd.app _ _)).trans (Au H hs ho sc k (i+1) _ _ _ (by omega))).more (by omega) (by simp only [List.length_cons,List.length_nil];omega)
theorem G4 {T:Trm→List Nam→CS→CS} {n:Nat} (H:HT T n) {t:Trm} (hs:szTL t.parts<=n) (ho:allT gy t=true) (hk:1<=t.parts.length) (sc:List Nam) (x:CS) (o:Opn):Bd x ((T (t.parts.getD 0 default) sc x).1++[o],(T (t.parts.getD 0 default) sc x).2) (szT (t.parts.getD 0 default)) 1:=
 ((H.part hs ho (i:=0) (by omega) sc x).trans (Bd.app _ _)).more (by omega) (by simp only [List.length_cons,List.length_nil];omega)
theorem G5 {T:Trm→List Nam→CS→CS} {n:Nat} (H:HT T n) {t:Trm} (hs:szTL t.parts<=n) (ho:allT gy t=true) (hk:t.kind=13) (sc:List Nam) (x:CS):Bd x (oq T t sc x) (szTL t.parts) (1+2 *t.names.length):=by
 have h1:=(mv (bM ho) hk).1
 have h2:=(G4 H hs ho (by omega) sc x ⟨16,0,[],t.names,[],t.pos⟩).trans (Au H hs ho sc t.names.length 0 [] [] _ (by omega))
 have e:=bw (l:=t.parts) (i:=0) (by omega)
 rw [List.drop_zero] at e
 obtain ⟨g1,g2,g3,g4⟩:=h2
 unfold oq
 refine ⟨?_,?_,?_,?_⟩ <;> simp only [lH,iZ] <;> omega
theorem G6 {T:Trm→List Nam→CS→CS} {n:Nat} (H:HT T n) {t:Trm} (hs:szTL t.parts<=n) (ho:allT gy t=true) (hk:t.kind=12) (sc:List Nam) (x:CS):Bd x (qI T t sc x) (szTL t.parts) 2:=by
 have h1:=Aq (bM ho) hk
 have e0:=bw (l:=t.parts) (i:=0) (by omega)
 have e1:=bw (l:=t.parts) (i:=1) (by omega)
 have e2:=bw (l:=t.parts) (i:=2) (by omega)
 rw [List.drop_zero] at e0
 simp only [Nat.reduceAdd] at e0 e1 e2
 unfold qI
 have a:=(H.part hs ho (i:=0) (by omega) sc x).trans (Bd.app _ [⟨14,0,[],[],[],t.pos⟩])
 have b:=(a.trans (H.part hs ho (i:=1) (by omega) sc _)).trans (Bd.app _ [⟨15,0,[],[],[],t.pos⟩])
 generalize hz:T (t.parts.getD 1 default) sc ((T (t.parts.getD 0 default) sc x).1++[⟨14,0,[],[],[],t.pos⟩],(T (t.parts.getD 0 default) sc x).2)=z at b
 have c:=H.part hs ho (i:=2) (by omega) sc (qH (z.1++[(⟨15,0,[],[],[],t.pos⟩:Opn)]) (T (t.parts.getD 0 default) sc x).1.length (z.1++[(⟨15,0,[],[],[],t.pos⟩:Opn)]).length,z.2)
 simp only [hz]
 obtain ⟨c1,c2,c3,c4⟩:=c
 obtain ⟨b1,b2,b3,b4⟩:=b
 simp only [List.length_singleton] at b2
 simp only [fE] at c1 c2
 dsimp only at b1 b3 b4 c3 c4
 refine ⟨?_,?_,?_,?_⟩
 ·show _<=(qH _ _ _).length
  rw [fE];exact Nat.le_trans b1 c1
 ·show (qH _ _ _).length<=_
  rw [fE];refine Nat.le_trans c2 ?_;omega
 ·exact Nat.le_trans b3 c3
 ·refine Nat.le_trans c4 ?_;omega
theorem G7 {T:Trm→List Nam→CS→CS} {n:Nat} (H:HT T n) {t:Trm} (hs:szTL t.parts<=n) (ho:allT gy t=true) (hk:t.kind=14) (sc:List Nam) (x:CS):Bd x (yA T t sc x) (szTL t.parts) 2:=by
 have h1:=Ar (bM ho) hk
 have e0:=bw (l:=t.parts) (i:=0) (by omega)
 have e1:=bw (l:=t.parts) (i:=1) (by omega)
 rw [List.drop_zero] at e0
 simp only [Nat.reduceAdd] at e0 e1
 have a:=(H.part hs ho (i:=0) (by omega) sc x).trans (Bd.app _ [⟨12,0,[],[],[],t.pos⟩])
 exact ((a.trans (H.part hs ho (i:=1) (by omega) (sc++[nm0 t.name]) _)).trans (Bd.app _ [⟨13,1,[],[],[],t.pos⟩])).more (by omega) (by simp only [List.length_singleton];omega)
theorem qK {t:Trm} (ho:allT gy t=true):∀u∈t.parts,allT gy u=true:=fun _ hu=>j7 ho hu
theorem G8 {T:Trm→List Nam→CS→CS} {n:Nat} (H:HT T n) {t:Trm} (hs:szTL t.parts<=n) (ho:allT gy t=true) (sc:List Nam) (x:CS):Bd x (vY T t sc x) (szTL t.parts) 1:=by
 have a:=oL H sc t.parts x hs (qK ho)
 unfold vY
 split
 ·exact (a.trans (Bd.app _ _)).more (by omega) (by simp only [List.length_singleton];omega)
 ·exact a.more (by omega) (by omega)
theorem mw:∀n,HT (aM n) n
 | 0=>fun t sc x h _=>absurd (fA t) (by omega)
 | n+1=>fun t sc x h ho=>by
  have H:=mw n
  have hs:szTL t.parts<=n:=by rw [dY] at h;omega
  have lf:∀o:Opn,Bd x (x.1++[o],x.2) (szT t) 0:=fun o=>(Bd.app x [o]).more (Nat.zero_le _) (by have:=fA t;simp only [List.length_singleton];omega)
  have nm:=ic (bM ho)
  have e:=dY t
  rw [aM]
  unfold iY
  split
  ·exact lf _
  split
  ·exact lf _
  split
  ·exact lf _
  split
  ·exact lf _
  split
  ·exact lf _
  split
  ·rename_i k
   obtain ⟨f1,f2,f3⟩:=As H hs ho k sc x
   rw [f1]
   exact ⟨by simp,by simp only [List.length_append,List.length_singleton];omega,by show _<=(kW _ _ _ _).2.length;omega,by show (kW _ _ _ _).2.length<=_;omega⟩
  split
  ·rename_i k
   exact (G6 H hs ho k sc x).more (by omega) (by omega)
  split
  ·rename_i k
   exact (G5 H hs ho k sc x).more (by omega) (by omega)
  split
  ·rename_i k
   exact (G7 H hs ho k sc x).more (by omega) (by omega)
  ·exact (G8 H hs ho sc x).more (by omega) (by omega)
theorem CmO.here {n:Nat} {sc:List Nam} {x:CS} {t:Trm} (h:CmO n sc x t):Bd x (aM n t sc x) (szT t) 0:=mw n t sc x h.1 h.2.1
theorem CmO.part {n:Nat} {sc sc':List Nam} {x y:CS} {t:Trm} (h:CmO (n+1) sc x t) {i c e:Nat} (hi:i < t.parts.length) (hb:Bd x y c e) (hc:c+szT (t.parts.getD i default)<=szTL t.parts) (he:e<=4000000) (hn:sc'.length<=sc.length+2000000):CmO n sc' y (t.parts.getD i default):=by
 obtain ⟨h1,h2,h3,h4,h5⟩:=h
 obtain ⟨b1,b2,b3,b4⟩:=hb
 rw [dY] at h1 h3 h4 h5
 have m:=fB (ib hi)
 have a:=j7 h2 (ib hi)
 exact ⟨by omega,a,by omega,by omega,by omega⟩
theorem E9 {α β:Type} (x:α × β):(x.1,x.2)=x:=rfl
theorem w9 {α:Type} [Inhabited α] {l:List α} {i:Nat} (h:i < l.length):l.take (i+1)=l.take i++[l.getD i default]:=by
 rw [List.take_succ_eq_append_getElem h,List.getD_eq_getElem?_getD,List.getElem?_eq_getElem h];rfl
theorem sq (T:Trm→List Nam→CS→CS) (sc:List Nam) (t:Trm):∀(l:List Trm) (x:CS),ij T sc (l++[t]) x=T t sc (ij T sc l x)
 | [],x=>rfl
 | u ::r,x=>by rw [List.cons_append,ij,ij];exact sq T sc t r _
theorem su (W:Trm→Nat) (t:Trm) (l:List Trm):kX W (l++[t])=kX W l+W t:=by simp [kX]
theorem sw (t:Trm):∀l:List Trm,szTL (l++[t])=szTL l+szT t
 | []=>by simp [szTL]
 | u ::r=>by rw [List.cons_append,szTL,szTL,sw t r];omega
theorem wa (l:List Trm) (i:Nat):szTL (l.take i)<=szTL l:=by
 induction l generalizing i with
 | nil=>simp
 | cons p r ih=>cases i with
  | zero=>simp [szTL]
  | succ i=>rw [List.take_succ_cons,szTL,szTL];have:=ih i;omega
theorem CmL.next {n:Nat} {sc:List Nam} {x:CS} {l:List Trm} (h:CmL n sc x l) {i:Nat} (hi:i < l.length):CmO n sc (ij (aM n) sc (l.take i) x) (l.getD i default):=by
 obtain ⟨h1,h2,h3,h4,h5⟩:=h
 have g:szTL (l.take (i+1))=szTL (l.take i)+szT (l.getD i default):=by rw [w9 hi,sw]
 have g2:=wa l (i+1)
 obtain ⟨b1,b2,b3,b4⟩:=oL (mw n) sc (l.take i) x (by omega) (fun t ht=>h2 t (List.mem_of_mem_take ht))
 exact ⟨by omega,h2 _ (ib hi),by omega,by omega,by omega⟩
theorem wb (o:List Opn) (k n:Int):o.set k.toNat {kind:=(o.getD k.toNat (dfl (.st .op))).kind,n:=n,name:=(o.getD k.toNat (dfl (.st .op))).name,names:=(o.getD k.toNat (dfl (.st .op))).names,tos:=(o.getD k.toNat (dfl (.st .op))).tos,pos:=(o.getD k.toNat (dfl (.st .op))).pos}=qH o k n:=rfl
theorem BS (o:List Opn) (k:Int) (l:List Int):o.set k.toNat {kind:=(o.getD k.toNat (dfl (.st .op))).kind,n:=(o.getD k.toNat (dfl (.st .op))).n,name:=(o.getD k.toNat (dfl (.st .op))).name,names:=(o.getD k.toNat (dfl (.st .op))).names,tos:=l,pos:=(o.getD k.toNat (dfl (.st .op))).pos}=so o k l:=rfl
theorem yD {n:Nat} {t:Trm} {sc:List Nam} {x:CS} (ho:CmO (n+1) sc x t) (hk:t.kind=13):w8 n t sc x 0 [] (vZ n t sc x):=by
 have hc:=(mv (bM ho.2.1) hk).1
 have hn:=ic (bM ho.2.1)
 have e0:=bw (l:=t.parts) (i:=0) (by omega)
 rw [List.drop_zero] at e0
 have o0:CmO n sc x (t.parts.getD 0 default):=ho.part (by omega) (Bd.refl x) (by omega) (by omega) (by omega)
 obtain ⟨b1,b2,b3,b4⟩:=o0.here
 obtain ⟨h1,h2,h3,h4,h5⟩:=ho
 rw [dY] at h1 h3 h4 h5
 unfold vZ
 refine ⟨?_,?_,Nat.le_refl _,fun j hj=>by cases hj⟩
 ·simp only [List.length_append,List.length_singleton];omega
 ·show (aM n (t.parts.getD 0 default) sc x).2.length+_<=_;omega
theorem sx {n:Nat} {t:Trm} {sc:List Nam} {x y:CS} {i:Nat} {js:List Int} (ho:CmO (n+1) sc x t) (hk:t.kind=13) (hi:i < t.names.length) (h:w8 n t sc x i js y) (v:Nam):CmO n (sc++[v]) y (t.parts.getD (i+1) default):=by
 have hc:=(mv (bM ho.2.1) hk).1
 have e0:=bw (l:=t.parts) (i:=i+1) (by omega)
 have p:=fB (ib (l:=t.parts) (i:=i+1) (by omega))
 obtain ⟨h1,h2,h3,h4,h5⟩:=ho
 obtain ⟨i1,i2,i3,i4⟩:=h
 rw [dY] at h1 h3 h4 h5
 refine ⟨by omega,j7 h2 (ib (by omega)),by omega,?_,by omega⟩
 rw [List.length_append,List.length_singleton];omega
theorem BT {n:Nat} {t:Trm} {sc:List Nam} {x y:CS} {i:Nat} {js:List Int} (ho:CmO (n+1) sc x t) (hk:t.kind=13) (hi:i < t.names.length) (h:w8 n t sc x i js y) (v:Nam) (a b:Opn):w8 n t sc x (i+1) (js++[((aM n (t.parts.getD (i+1) default) (sc++[v]) y).1.length:Int)+1]) ((aM n (t.parts.getD (i+1) default) (sc++[v]) y).1++[a,b],(aM n (t.parts.getD (i+1) default) (sc++[v]) y).2):=by
 have hc:=(mv (bM ho.2.1) hk).1
 have e0:=bw (l:=t.parts) (i:=i+1) (by omega)
 obtain ⟨b1,b2,b3,b4⟩:=(sx ho hk hi h v).here
 obtain ⟨i1,i2,i3,i4⟩:=h
 have e:([a,b]:List Opn).length=2:=rfl
 refine ⟨?_,?_,?_,?_⟩
 ·simp only [List.length_append,e];omega
 ·show (aM n (t.parts.getD (i+1) default) (sc++[v]) y).2.length+_<=_;omega
 ·simp only [List.length_append,e];omega
 ·intro j hj
  simp only [List.length_append,e]
  rcases List.mem_append.1 hj with q | q
  ·have:=i4 j q;omega
  ·rw [List.mem_singleton] at q;omega
theorem G9 {T:Trm→List Nam→CS→CS} {t:Trm} {sc:List Nam} {x z:CS} {ts js:List Int} (h:iX T t sc t.names.length 0 [] [] ((T (t.parts.getD 0 default) sc x).1++[⟨16,0,[],t.names,[],t.pos⟩],(T (t.parts.getD 0 default) sc x).2)=(ts,js,z)):oq T t sc x=(eH z.1.length js (so z.1 (T (t.parts.getD 0 default) sc x).1.length ts),z.2):=by
 unfold oq;simp only [h]
theorem BU (W:Trm→Nat) (t:Trm) (i:Nat):ue W t (i+1)=ue W t i+(W (t.parts.getD (i+1) default)+1):=by
 unfold ue
 rw [List.range_succ,List.map_append,List.map_singleton,su]
theorem Ic {n:Nat} {t:Trm} (hk:t.kind=13):wK n t=wN n (t.parts.getD 0 default)+ue (wN n) t t.names.length:=by
 unfold wK qJ ue
 rw [if_neg (by omega),if_neg (by omega),if_pos hk]
theorem Ie {α:Type} [Inhabited α] {l:List α} {i:Nat} (h:i < l.length):l.drop i=l.getD i default ::l.drop (i+1):=by
 rw [List.drop_eq_getElem_cons h,List.getD_eq_getElem?_getD,List.getElem?_eq_getElem h];rfl
theorem HA {α:Type} [Inhabited α] {l:List α} {i:Nat} (h:i < l.length):l.getD i default∈l:=by
 rw [List.getD_eq_getElem?_getD,List.getElem?_eq_getElem h]
 exact List.getElem_mem h
section
variable {n:Nat} {t:Trm} (sc:List Nam) (x:CS)
theorem Ig (h:t.kind=1):aM (n+1) t sc x=(x.1++[⟨1,t.n,[],[],[],t.pos⟩],x.2):=by
 rw [aM];unfold iY;simp only [h];rfl
theorem Ih (h:t.kind=2):aM (n+1) t sc x=(x.1++[⟨2,0,t.name,[],[],t.pos⟩],x.2):=by
 rw [aM];unfold iY;simp only [h];rfl
theorem Ii (h:t.kind=3):aM (n+1) t sc x=(x.1++[⟨3,1,[],[],[],t.pos⟩],x.2):=by
 rw [aM];unfold iY;simp only [h];rfl
theorem Ij (h:t.kind=4):aM (n+1) t sc x=(x.1++[⟨3,0,[],[],[],t.pos⟩],x.2):=by
 rw [aM];unfold iY;simp only [h];rfl
theorem Ik (h:t.kind=5):aM (n+1) t sc x=(x.1++[kr sc t],x.2):=by
 rw [aM];unfold iY;simp only [h];rfl
theorem Il (h:t.kind=6):aM (n+1) t sc x=((kW (aM n) t sc x).1++[⟨6,x.2.length,[],[],[],t.pos⟩],(kW (aM n) t sc x).2):=by
 rw [aM];unfold iY;simp only [h];rfl
theorem HB (h:t.kind=12):aM (n+1) t sc x=qI (aM n) t sc x:=by
 rw [aM];unfold iY;simp only [h];rfl
theorem HC (h:t.kind=13):aM (n+1) t sc x=oq (aM n) t sc x:=by
 rw [aM];unfold iY;simp only [h];rfl
theorem HD (h:t.kind=14):aM (n+1) t sc x=yA (aM n) t sc x:=by
 rw [aM];unfold iY;simp only [h];rfl
theorem Im (h:¬t.kind=1/\¬t.kind=2/\¬t.kind=3/\¬t.kind=4/\¬t.kind=5/\¬t.kind=6/\¬t.kind=12/\¬t.kind=13/\¬t.kind=14):aM (n+1) t sc x=vY (aM n) t sc x:=by
 obtain ⟨h1,h2,h3,h4,h5,h6,h7,h8,h9⟩:=h
 rw [aM];unfold iY
 rw [if_neg h1,if_neg h2,if_neg h3,if_neg h4,if_neg h5,if_neg h6,if_neg h7,if_neg h8,if_neg h9]
theorem nr (h:t.kind=1∨t.kind=2∨t.kind=3∨t.kind=4∨t.kind=5∨t.kind=6):wN (n+1) t=0:=by
 rw [wN];unfold qJ;rw [if_pos h]
theorem w_14 (h:t.kind=14):wN (n+1) t=wN n (t.parts.getD 0 default)+wN n (t.parts.getD 1 default)+1:=by
 rw [wN];unfold qJ;rw [if_neg (by omega),if_neg (by omega),if_neg (by omega),if_pos h]
theorem w_r (h:¬t.kind=1/\¬t.kind=2/\¬t.kind=3/\¬t.kind=4/\¬t.kind=5/\¬t.kind=6/\¬t.kind=12/\¬t.kind=13/\¬t.kind=14):wN (n+1) t=kX (wN n) t.parts:=by
 obtain ⟨h1,h2,h3,h4,h5,h6,h7,h8,h9⟩:=h
 rw [wN];unfold qJ;rw [if_neg (by omega),if_neg h7,if_neg h8,if_neg h9]
end
theorem CmO.parts {n:Nat} {sc:List Nam} {x:CS} {t:Trm} (h:CmO (n+1) sc x t):CmL n sc x t.parts:=by
 obtain ⟨h1,h2,h3,h4,h5⟩:=h
 rw [dY] at h1 h3 h4 h5
 exact ⟨by omega,qK h2,by omega,by omega,by omega⟩
end Go.Pd
end
noncomputable section
namespace Go.Pd
open Go Go.AL
mutual
def stC (b:Bndg):Trm→Bool
 | ⟨k,g,q,_,_,_,_,ps,_⟩=>stCL b ps || (decide (k=5) && decide (g=b.pkg) && decide (q=b.name))
def stCL (b:Bndg):List Trm→Bool
 | []=>false
 | p ::r=>stC b p || stCL b r
end
theorem qL (b:Bndg) (t:Trm):stC b t=(stCL b t.parts || (decide (t.kind=5) && decide (t.pkg=b.pkg) && decide (t.name=b.name))):=by cases t;rw [stC]
theorem qM (b:Bndg):∀{l:List Trm},stCL b l=false→∀p∈l,stC b p=false
 | p ::r,h,q,hq=>by
  rw [stCL,Bool.or_eq_false_iff] at h
  rcases List.mem_cons.1 hq with e | e
  ·rw [e];exact h.1
  ·exact qM b h.2 q e
theorem Ea {b:Bndg} {t:Trm} (h:stC b t=false) (i:Nat):stC b (t.parts.getD i default)=false:=by
 rw [qL,Bool.or_eq_false_iff] at h
 by_cases q:i < t.parts.length
 ·exact qM b h.1 _ (ib q)
 ·rw [List.getD_eq_getElem?_getD,List.getElem?_eq_none (by omega)]
  show stC b (default:Trm)=false
  rw [qL]
  rfl
theorem qN {b:Bndg} {t:Trm} (h:¬(b.pkg=t.pkg/\b.name=t.name)) (sc:List Nam):∀k,jH (nmB b ::sc) t (k+1)=jH sc t k
 | 0=>by
  rw [jH,jH]
  show (if b.pkg=t.pkg/\b.name=t.name then _ else _)=_
  rw [if_neg h];rfl
 | k+1=>by
  have e:((nmB b ::sc).length:Int) - 1 - ((k+1:Nat):Int)=(sc.length:Int) - 1 - (k:Nat):=by rw [List.length_cons];omega
  rw [jH,qN h sc k,e]
  rfl
theorem yE {b:Bndg}:∀(n:Nat) (t:Trm) (sc:List Nam) (x:CS),stC b t=false→aM n t (nmB b ::sc) x=aM n t sc x
 | 0,t,sc,x,_=>rfl
 | n+1,t,sc,x,h=>by
  have hp:∀(i:Nat) (sc:List Nam) (x:CS),aM n (t.parts.getD i default) (nmB b ::sc) x=aM n (t.parts.getD i default) sc x:=fun i sc x=>yE n _ sc x (Ea h i)
  have hp':∀(i:Nat) (sc r:List Nam) (x:CS),aM n (t.parts.getD i default) (nmB b ::sc++r) x=aM n (t.parts.getD i default) (sc++r) x:=fun i sc r x=>hp i (sc++r) x
  rw [aM,aM]
  unfold iY
  have hl:t.kind=5→kr (nmB b ::sc) t=kr sc t:=fun k=>by
   rw [qL,Bool.or_eq_false_iff] at h
   exact qN (fun z=>by have:=h.2;rw [k,z.1,z.2] at this;simp at this) sc _
  have hf:kW (aM n) t (nmB b ::sc) x=kW (aM n) t sc x:=by unfold kW;simp only [hp']
  have hc:qI (aM n) t (nmB b ::sc) x=qI (aM n) t sc x:=by unfold qI;simp only [hp]
  have ha:∀k i ts js y,iX (aM n) t (nmB b ::sc) k i ts js y=iX (aM n) t sc k i ts js y:=by
   intro k
   induction k with
   | zero=>intros;rfl
   | succ k ih=>intro i ts js y;rw [iX,iX];simp only [hp',ih]
  have hm:oq (aM n) t (nmB b ::sc) x=oq (aM n) t sc x:=by unfold oq;simp only [hp,ha]
  have ht:yA (aM n) t (nmB b ::sc) x=yA (aM n) t sc x:=by unfold yA;simp only [hp,hp']
  have hn:∀(l:List Trm) (y:CS),(∀u∈l,stC b u=false)→ij (aM n) (nmB b ::sc) l y=ij (aM n) sc l y:=by
   intro l
   induction l with
   | nil=>intros;rfl
   | cons u r ih=>intro y hu;rw [ij,ij,yE n u sc y (hu u (List.mem_cons_self ..)),ih _ fun v hv=>hu v (List.mem_cons_of_mem _ hv)]
  have hr:vY (aM n) t (nmB b ::sc) x=vY (aM n) t sc x:=by
   unfold vY
   rw [hn t.parts x fun u hu=>by rw [qL,Bool.or_eq_false_iff] at h;exact qM b h.1 u hu]
  rw [hf,hc,hm,ht,hr]
  split
  ·rfl
  split
  ·rfl
  split
  ·rfl
  split
  ·rfl
  split
  ·rename_i k;rw [hl k]
  ·rfl
theorem BV {b:Bndg} {t:Trm} (h:stC b t=false) (n:Nat) (l:List Bndg):yB n t (b ::l)=yB n t l:=by
 unfold yB
 rw [List.map_cons,yE n t _ _ h]
theorem uf {f g k:Trm→Bool} (h:∀x,f x=true→g x=true→k x=true):∀(n:Nat) (t:Trm),szT t<=n→allT f t=true→allT g t=true→allT k t=true
 | 0,t,hn,_,_=>absurd (fA t) (by omega)
 | n+1,t,hn,hf,hg=>by
  rw [dY] at hn
  rw [allT_eq,Bool.and_eq_true,allTL_all] at hf hg ⊢
  refine ⟨h t hf.1 hg.1,List.all_eq_true.2 fun u hu=>?_⟩
  have:=fB hu
  exact uf h n u (by omega) (List.all_eq_true.1 hf.2 u hu) (List.all_eq_true.1 hg.2 u hu)
theorem my {t:Trm} {n v s p:Nat} (h:gw t n v s p=true):t.names.length=n/\t.vars.length=v/\t.parts.length=p:=by
 unfold gw at h
 simp only [Bool.and_eq_true,decide_eq_true_eq] at h
 exact ⟨h.1.1.1,h.1.1.2,h.2⟩
theorem BW {t:Trm} (h:aW t=true) (hn:t.names.length<=1048576):gy t=true:=by
 unfold aW at h
 rw [Bool.and_eq_true] at h
 have h:=h.2
 unfold Af at h
 unfold gy
 rw [Bool.and_eq_true]
 refine ⟨Xd hn,?_⟩
 by_cases k6:t.kind=6
 ·rw [if_pos k6]
  rw [if_neg (by omega),if_neg (by omega),if_neg (by omega),if_neg (by omega),if_pos k6,Bool.and_eq_true] at h
  have:=my h.2
  exact Xd (by omega)
 rw [if_neg k6]
 by_cases k12:t.kind=12
 ·rw [if_pos k12]
  rw [if_neg (by omega),if_neg (by omega),if_neg (by omega),if_neg (by omega),if_neg (by omega),if_neg (by omega),if_neg (by omega),if_neg (by omega),if_neg (by omega),if_pos k12,Bool.and_eq_true] at h
  have:=my h.2
  exact Xd (by omega)
 rw [if_neg k12]
 by_cases k13:t.kind=13
 ·rw [if_pos k13]
  rw [if_neg (by omega),if_neg (by omega),if_neg (by omega),if_neg (by omega),if_neg (by omega),if_neg (by omega),if_neg (by omega),if_neg (by omega),if_neg (by omega),if_neg (by omega),if_pos k13,Bool.and_eq_true] at h
  have:=my h.2
  rw [Bool.and_eq_true]
  exact ⟨Xd (by omega),Xd (by omega)⟩
 rw [if_neg k13]
 by_cases k14:t.kind=14
 ·rw [if_pos k14]
  rw [if_neg (by omega),if_neg (by omega),if_neg (by omega),if_neg (by omega),if_neg (by omega),if_neg (by omega),if_neg (by omega),if_neg (by omega),if_neg (by omega),if_neg (by omega),if_neg (by omega),if_pos k14,Bool.and_eq_true] at h
  have:=my h.2
  exact Xd (by omega)
 ·rw [if_neg k14]
theorem wc {t:Trm} (h:cw t=0):allT aW t=true:=by
 unfold cw at h
 split at h
 ·cases h
 split at h
 ·cases h
 split at h
 ·assumption
 ·cases h
mutual
def szcT:Trm→Int→Int
 | ⟨_,_,_,_,_,_,_,ps,_⟩,m=>szcTL ps 1 m
def szcTL:List Trm→Int→Int→Int
 | [],n,_=>n
 | p ::r,n,m=>if n<=m then szcTL r (n+szcT p (m - n)) m else n
end
mutual
theorem szcT_bd:∀(s:Trm) (m:Int),0<=m→1<=szcT s m/\szcT s m<=m+1
 | ⟨_,_,_,_,_,_,_,ps,_⟩,m,h=>by
  simp only [szcT]
  exact szcTL_bd ps 1 m (by omega) (by omega)
theorem szcTL_bd:∀(l:List Trm) (n m:Int),1<=n→n<=m+1→1<=szcTL l n m/\szcTL l n m<=m+1
 | [],n,m,h1,h2=>by simp only [szcTL];omega
 | p ::r,n,m,h1,h2=>by
  simp only [szcTL]
  split
  ·have:=szcT_bd p (m - n) (by omega)
   exact szcTL_bd r _ m (by omega) (by omega)
  ·omega
end
mutual
theorem szcT_eq:∀(s:Trm) (m:Int),0<=m→szcT s m=min (szT s:Int) (m+1)
 | ⟨_,_,_,_,_,_,_,ps,_⟩,m,h=>by
  simp only [szcT,szT]
  rw [szcTL_eq ps 1 m (by omega)]
  omega
theorem szcTL_eq:∀(l:List Trm) (n m:Int),n<=m+1→szcTL l n m=min (n+szTL l) (m+1)
 | [],n,m,h=>by simp only [szcTL,szTL];omega
 | p ::r,n,m,h=>by
  simp only [szcTL,szTL]
  have:=fA p
  split
  ·rw [szcT_eq p (m - n) (by omega),szcTL_eq r _ m (by omega)]
   omega
  ·omega
end
theorem Av {f:Trm→Bool} (hf:∀x,f x=true→x.names.length<=1048576) {t:Trm} {l:List Bndg} (h:allT f t=true) (hz:szT t<=500) (hl:l.length<=200):yC (szT t) t l:=by
 have fw:cv t=true:=uf (g:=f) (fun x a _=>Xd (by have:=hf x a;omega)) _ t (Nat.le_refl _) h h
 refine ⟨fw,by omega,fun c=>⟨Nat.le_refl _,uf (fun x a b=>BW a (hf x b)) _ t (Nat.le_refl _) (wc c) h,?_,?_,?_⟩⟩
 ·show 0+_<=_;omega
 ·rw [List.length_map];omega
 ·show 1+_<=_;omega
def Ga (t:Trm) (l:List Bndg):List Chnk × Int:=(if cw t≠0 then [] else yB (szT t) t l,cw t)
theorem BX {f:Trm→Bool} (hf:∀x,f x=true→x.names.length<=1048576) {t:Trm} {l:List Bndg} {b:Bndg} (h:allT f t=true) (hz:szcT t 500<=500) (hl:l.length<=100) (hb:stC b t=false):yC (szT t) t l/\yC (szT t) t (b ::l)/\Ga t (b ::l)=Ga t l:=by
 rw [szcT_eq t 500 (by omega)] at hz
 refine ⟨Av hf h (by omega) (by omega),Av hf h (by omega) (by rw [List.length_cons];omega),?_⟩
 unfold Ga
 rw [BV hb]
end Go.Pd
end
section
namespace Go.Proofs.YtldkmcedeenlnaaGreatDoor.Join
open Go.AL Go.AL.Seat Go.Pd Go.ChangeShapes Go.WideShapes Go.RowKit Go.Lib Go.Shelf
set_option maxRecDepth 1000000
theorem Io:Tryz.prog.underlying 27=some (.slice 51):=by kernel_rfl
theorem Aw:ShapeAt Tryz.prog 49:=⟨_,_,_,_,_,9,Tryz.underlying49,by kernel_rfl,⟨rfl,rfl,rfl,rfl,rfl⟩,⟨by kernel_rfl,by kernel_rfl,by kernel_rfl,by kernel_rfl,by kernel_rfl⟩,by kernel_rfl,by kernel_rfl,by kernel_rfl,by kernel_rfl,by kernel_rfl,by kernel_rfl,by kernel_rfl⟩
theorem Eb:BindAt Tryz.prog 51:=⟨_,_,_,Tryz.underlying51,by kernel_rfl,⟨rfl,rfl,rfl⟩,⟨by kernel_rfl,by kernel_rfl,by kernel_rfl⟩,by kernel_rfl,by kernel_rfl,Aw⟩
theorem HE:TermAt Tryz.prog 26:=⟨_,_,_,_,_,_,_,_,_,9,49,Tryz.underlying26,by kernel_rfl,⟨rfl,rfl,rfl,rfl,rfl,rfl,rfl,rfl,rfl⟩,⟨by kernel_rfl,by kernel_rfl,by kernel_rfl,by kernel_rfl,by kernel_rfl,by kernel_rfl,by kernel_rfl,by kernel_rfl,by kernel_rfl⟩,
 ⟨by kernel_rfl,by kernel_rfl,by kernel_rfl,by kernel_rfl,by kernel_rfl,by kernel_rfl,by kernel_rfl,by kernel_rfl,by kernel_rfl⟩,⟨by kernel_rfl,by kernel_rfl,by kernel_rfl⟩,Aw⟩
theorem Ip:51 < Tryz.prog.types.size:=Xo (by kernel_rfl)
theorem Iq:Tryz.prog.readableRec 26=true:=by kernel_rfl
theorem Ir:Tryz.prog.readableRec 27=true:=by kernel_rfl
theorem Is:Tryz.prog.readableRec 51=true:=by kernel_rfl
theorem we (x:Trm) (h:ng 1048576 1048576 x=true):x.names.length<=1048576:=by
 unfold ng at h
 rw [Bool.and_eq_true] at h
 exact Xo h.1
end Go.Proofs.YtldkmcedeenlnaaGreatDoor.Join
end
noncomputable section
namespace Go.AL
def evN {α:Type} (n:Nat) (k:Nat→α):α:=match n with | 0=>k 0 | m+1=>k (m+1)
def evI {α:Type} (n:Int) (k:Int→α):α:=match n with | .ofNat m=>evN m fun m=>k (.ofNat m) | .negSucc m=>evN m fun m=>k (.negSucc m)
def evL {α β:Type}:List β→(List β→α)→α
 | [],k=>k []
 | a ::r,k=>evL r fun r=>k (a ::r)
theorem bz {α:Type} (n:Nat) (k:Nat→α):evN n k=k n:=by cases n <;> rfl
theorem yF {α:Type} (n:Int) (k:Int→α):evI n k=k n:=by
 cases n <;> (unfold evI;exact bz _ _)
theorem dZ {α β:Type}:∀(l:List β) (k:List β→α),evL l k=k l
 | [],_=>rfl
 | a ::r,k=>by rw [evL,dZ r]
mutual
def evV {α:Type}:AV→(AV→α)→α
 | .int κ n,k=>evI n fun n=>k (.int κ n)
 | .bool true,k=>k (.bool true)
 | .bool false,k=>k (.bool false)
 | .str s,k=>evL s fun s=>k (.str s)
 | .lst τ xs none,k=>evL xs fun xs=>k (.lst τ xs none)
 | .lst τ xs (some i),k=>evL xs fun xs=>k (.lst τ xs (some i))
 | .row τ xs,k=>evL xs fun xs=>k (.row τ xs)
 | .arr i n w,k=>evN n fun n=>k (.arr i n w)
 | .aptr i n w o,k=>evN n fun n=>evN o fun o=>k (.aptr i n w o)
 | .cptr c,k=>evV c fun c=>k (.cptr c)
 | .agg cs,k=>evVs cs fun cs=>k (.agg cs)
 | .tup cs,k=>evVs cs fun cs=>k (.tup cs)
 | .fn f cs,k=>evVs cs fun cs=>k (.fn f cs)
 | .iface t a,k=>evV a fun a=>k (.iface t a)
 | .lstp τ xs i,k=>evL xs fun xs=>k (.lstp τ xs i)
 | .glst s n i,k=>evN s fun s=>evN n fun n=>k (.glst s n i)
 | .gptr i s n w o,k=>evN s fun s=>evN n fun n=>evN w fun w=>evN o fun o=>k (.gptr i s n w o)
 | .undef,k=>k .undef
 | .nils,k=>k .nils
 | .ptr i o,k=>k (.ptr i o)
 | .nilp,k=>k .nilp
 | .st n x,k=>k (.st n x)
 | .map i,k=>k (.map i)
 | .bptr i,k=>k (.bptr i)
 | .nilif,k=>k .nilif
 | .nilm,k=>k .nilm
 | .pt n x,k=>k (.pt n x)
 | .tptr τ n i,k=>k (.tptr τ n i)
def evVs {α:Type}:List AV→(List AV→α)→α
 | [],k=>k []
 | a ::r,k=>evV a fun a=>evVs r fun r=>k (a ::r)
end
mutual
theorem evV_eq {α:Type}:∀(a:AV) (k:AV→α),evV a k=k a
 | .int κ n,k=>by rw [evV,yF]
 | .bool true,k=>rfl
 | .bool false,k=>rfl
 | .str s,k=>by rw [evV,dZ]
 | .lst τ xs none,k=>by rw [evV,dZ]
 | .lst τ xs (some i),k=>by rw [evV,dZ]
 | .row τ xs,k=>by rw [evV,dZ]
 | .arr i n w,k=>by rw [evV,bz]
 | .aptr i n w o,k=>by rw [evV,bz,bz]
 | .cptr c,k=>by rw [evV,evV_eq c]
 | .agg cs,k=>by rw [evV,evVs_eq cs]
 | .tup cs,k=>by rw [evV,evVs_eq cs]
 | .fn f cs,k=>by rw [evV,evVs_eq cs]
 | .iface t a,k=>by rw [evV,evV_eq a]
 | .lstp τ xs i,k=>by rw [evV,dZ]
 | .glst _ _ _,k=>by rw [evV,bz,bz]
 | .gptr _ _ _ _ _,k=>by rw [evV,bz,bz,bz,bz]
 | .undef,k=>rfl
 | .nils,k=>rfl
 | .ptr _ _,k=>rfl
 | .nilp,k=>rfl
 | .st _ _,k=>rfl
 | .map _,k=>rfl
 | .bptr _,k=>rfl
 | .nilif,k=>rfl
 | .nilm,k=>rfl
 | .pt _ _,k=>rfl
 | .tptr _ _ _,k=>rfl
theorem evVs_eq {α:Type}:∀(l:List AV) (k:List AV→α),evVs l k=k l
 | [],k=>rfl
 | a ::r,k=>by rw [evVs,evV_eq a,evVs_eq r]
end
def evA {α:Type} (a:AV) (k:AV→α):α:=
 match a with
 | .int κ n=>evI n fun n=>k (.int κ n)
 | .bool b=>(match b with | true=>k (.bool true) | false=>k (.bool false))
 | .str s=>evL s fun s=>k (.str s)
 | .lst τ xs o=>evL xs fun xs=>(match o with | none=>k (.lst τ xs none) | some i=>k (.lst τ xs (some i)))
 | .row τ xs=>evL xs fun xs=>k (.row τ xs)
 | .arr i n w=>evN n fun n=>k (.arr i n w)
 | .aptr i n w o=>evN n fun n=>evN o fun o=>k (.aptr i n w o)
 | .ptr i o=>evN o fun o=>k (.ptr i o)
 | .cptr c=>evV c fun c=>k (.cptr c)
 | .agg cs=>evVs cs fun cs=>k (.agg cs)
 | .tup cs=>evVs cs fun cs=>k (.tup cs)
 | .fn f cs=>evVs cs fun cs=>k (.fn f cs)
 | .iface t a=>evV a fun a=>k (.iface t a)
 | .lstp τ xs i=>evL xs fun xs=>k (.lstp τ xs i)
 | .glst s n i=>evN s fun s=>evN n fun n=>k (.glst s n i)
 | .gptr i s n w o=>evN s fun s=>evN n fun n=>evN w fun w=>evN o fun o=>k (.gptr i s n w o)
 | a=>k a
theorem HF {α:Type} (a:AV) (k:AV→α):evA a k=k a:=by
 unfold evA
 split
 ·exact yF _ _
 ·split <;> rfl
 ·exact dZ _ _
 ·rw [dZ];split <;> rfl
 ·exact dZ _ _
 ·exact bz _ _
 ·rw [bz,bz]
 ·exact bz _ _
 ·exact evV_eq _ _
 ·exact evVs_eq _ _
 ·exact evVs_eq _ _
 ·exact evVs_eq _ _
 ·exact evV_eq _ _
 ·exact dZ _ _
 ·rw [bz,bz]
 ·rw [bz,bz,bz,bz]
 ·rfl
mutual
def evW {α:Type}:AV→(AV→α)→α
 | .int κ n,k=>evI n fun n=>k (.int κ n)
 | .bool true,k=>k (.bool true)
 | .bool false,k=>k (.bool false)
 | .lst τ xs none,k=>k (.lst τ xs none)
 | .lst τ xs (some i),k=>k (.lst τ xs (some i))
 | .row τ xs,k=>evL xs fun xs=>k (.row τ xs)
 | .arr i n w,k=>evN n fun n=>k (.arr i n w)
 | .aptr i n w o,k=>evN n fun n=>evN o fun o=>k (.aptr i n w o)
 | .cptr c,k=>evW c fun c=>k (.cptr c)
 | .agg cs,k=>evWs cs fun cs=>k (.agg cs)
 | .tup cs,k=>evWs cs fun cs=>k (.tup cs)
 | .fn f cs,k=>evWs cs fun cs=>k (.fn f cs)
 | .iface t a,k=>evW a fun a=>k (.iface t a)
 | .lstp τ xs i,k=>evL xs fun xs=>k (.lstp τ xs i)
 | .glst s n i,k=>evN s fun s=>evN n fun n=>k (.glst s n i)
 | .gptr i s n w o,k=>evN s fun s=>evN n fun n=>evN w fun w=>evN o fun o=>k (.gptr i s n w o)
 | .str s,k=>k (.str s)
 | .undef,k=>k .undef
 | .nils,k=>k .nils
 | .ptr i o,k=>evN o fun o=>k (.ptr i o)
 | .nilp,k=>k .nilp
 | .st n x,k=>k (.st n x)
 | .map i,k=>k (.map i)
 | .bptr i,k=>k (.bptr i)
 | .nilif,k=>k .nilif
 | .nilm,k=>k .nilm
 | .pt n x,k=>k (.pt n x)
 | .tptr τ n i,k=>k (.tptr τ n i)
def evWs {α:Type}:List AV→(List AV→α)→α
 | [],k=>k []
 | a ::r,k=>evW a fun a=>evWs r fun r=>k (a ::r)
end
mutual
theorem evW_eq {α:Type}:∀(a:AV) (k:AV→α),evW a k=k a
 | .int κ n,k=>by rw [evW,yF]
 | .bool true,k=>rfl
 | .bool false,k=>rfl
 | .str s,k=>rfl
 | .lst τ xs none,k=>rfl
 | .lst τ xs (some i),k=>rfl
 | .row τ xs,k=>by rw [evW,dZ]
 | .arr i n w,k=>by rw [evW,bz]
 | .aptr i n w o,k=>by rw [evW,bz,bz]
 | .cptr c,k=>by rw [evW,evW_eq c]
 | .agg cs,k=>by rw [evW,evWs_eq cs]
 | .tup cs,k=>by rw [evW,evWs_eq cs]
 | .fn f cs,k=>by rw [evW,evWs_eq cs]
 | .iface t a,k=>by rw [evW,evW_eq a]
 | .lstp τ xs i,k=>by rw [evW,dZ]
 | .glst _ _ _,k=>by rw [evW,bz,bz]
 | .gptr _ _ _ _ _,k=>by rw [evW,bz,bz,bz,bz]
 | .undef,k=>rfl
 | .nils,k=>rfl
 | .ptr _ o,k=>by rw [evW,bz]
 | .nilp,k=>rfl
 | .st _ _,k=>rfl
 | .map _,k=>rfl
 | .bptr _,k=>rfl
 | .nilif,k=>rfl
 | .nilm,k=>rfl
 | .pt _ _,k=>rfl
 | .tptr _ _ _,k=>rfl
theorem evWs_eq {α:Type}:∀(l:List AV) (k:List AV→α),evWs l k=k l
 | [],k=>rfl
 | a ::r,k=>by rw [evWs,evW_eq a,evWs_eq r]
end
def Gb:Op→Bool
 | .load _ _=>true
 | .move _=>true
 | _=>false
def evQ {α:Type} (o:Oper) (a:AV) (k:AV→α):α:=match Gb o.op with | true=>evW a k | false=>evA a k
theorem HG {α:Type} (o:Oper) (a:AV) (k:AV→α):evQ o a k=k a:=by
 unfold evQ
 split
 ·exact evW_eq _ _
 ·exact HF _ _
def evO {α:Type}:SObj→(SObj→α)→α
 | .box c,k=>evW c fun c=>k (.box c)
 | .tail τ n,k=>evN n fun n=>k (.tail τ n)
 | .map κ τ m,k=>evL m fun m=>k (.map κ τ m)
 | .bld t u l,k=>evL l fun l=>k (.bld t u l)
 | .tailp τ n x,k=>evN n fun n=>k (.tailp τ n x)
 | .grow τ s xs,k=>evN s fun s=>evL xs fun xs=>k (.grow τ s xs)
theorem HH {α:Type} (o:SObj) (k:SObj→α):evO o k=k o:=by
 cases o with
 | box c=>exact evW_eq _ _
 | tail τ n=>unfold evO;exact bz _ _
 | map κ τ m=>exact dZ _ _
 | bld t u l=>exact dZ _ _
 | tailp τ n x=>unfold evO;exact bz _ _
 | grow τ s xs=>show evN s (fun s=>evL xs fun xs=>k (.grow τ s xs))=_;rw [bz,dZ]
def evB {α:Type}:List (Nat × SObj)→(List (Nat × SObj)→α)→α
 | [],k=>k []
 | (i,o) ::r,k=>evO o fun o=>evB r fun r=>k ((i,o) ::r)
theorem ug {α:Type}:∀(l:List (Nat × SObj)) (k:List (Nat × SObj)→α),evB l k=k l
 | [],k=>rfl
 | (i,o) ::r,k=>by rw [evB,HH,ug r]
def evS {α:Type} (s:St) (k:St→α):α:=evL s.t fun t=>evB s.b fun b=>k ⟨t,b⟩
theorem Ec {α:Type} (s:St) (k:St→α):evS s k=k s:=by rw [evS,dZ,ug]
theorem BY {ob:Option DP} {q:Prop} (h:okO ob=true) (hq:q):p9 ob q:=by
 cases ob with
 | none=>exact hq
 | some d=>exact ⟨d.h h,hq⟩
def Ax {α:Sort _} (ops:List Oper) (o:Oper) (T:Nat→AV) (bad:α) (on off:Unit→α):α:=
 match o.guard with
 | none=>on ()
 | some (j,want)=>
  match (nth ops j).bind (·.dst) with
  | none=>bad
  | some d=>
   match T d with
   | .bool true=>if want then on () else off ()
   | .bool false=>if want then off () else on ()
   | .tup []=>off ()
   | _=>bad
theorem yG {α:Type} {ops:List Oper} {o:Oper} {T:Nat→AV} {y:α} {on off:Unit→Option α} {on' off':Unit→Prop} (hon:on ()=some y→on' ()) (hoff:off ()=some y→off' ())
  (h:Ax ops o T none on off=some y):Ax ops o T False on' off':=by
 unfold Ax at h ⊢
 cases hg:o.guard with
 | none=>simp only [hg] at h ⊢;exact hon h
 | some p=>
  obtain ⟨j,want⟩:=p
  simp only [hg] at h ⊢
  cases hd:(nth ops j).bind (·.dst) with
  | none=>simp only [hd] at h;cases h
  | some d=>
   simp only [hd] at h ⊢
   generalize T d=v at h ⊢
   split at h
   ·split at h
    ·rename_i hw;exact (if_pos hw).symm ▸ hon h
    ·rename_i hw;exact (if_neg hw).symm ▸ hoff h
   ·split at h
    ·rename_i hw;exact (if_pos hw).symm ▸ hoff h
    ·rename_i hw;exact (if_neg hw).symm ▸ hon h
   ·exact hoff h
   ·cases h
def gdB (ops:List Oper) (g:Bool) (i:Nat):Bool:=match g with | true=>fk ops i | false=>false
def Ed (ops:List Oper):Bool:=ops.any fun o=>o.guard.isSome
theorem HI (ops:List Oper) (i:Nat):gdB ops (Ed ops) i=fk ops i:=by
 unfold gdB
 cases h:Ed ops with
 | true=>rfl
 | false=>
  show false=fk ops i
  symm
  unfold Ed at h
  rw [List.any_eq_false] at h
  unfold fk
  rw [List.any_eq_false]
  intro o ho
  have:=h o ho
  cases hg:o.guard with
  | none=>simp
  | some x=>rw [hg] at this;exact absurd rfl this
def wg (C:Cfg) (ops:List Oper) (g:Bool):List Oper→Nat→St→List bg→Option (St × List bg)
 | [],_,s,fs=>some (s,fs.reverse)
 | o ::r,i,s,fs=>
  Ax ops o (aI s.t) none
   (fun _=>
    match au C o (aI s.t) (aj s.b) with
    | none=>none
    | some e=>
     match okO e.ob,bN C o (aI s.t) (aj s.b) with
     | true,none=>
      (match gdB ops g i,e.val with
      | true,.bool b=>(match b with
       | true=>wg C ops g r (i+1) ⟨p8 s.t o.dst (.bool true),bP s.b e.upd⟩ ((aE C o (aI s.t) (aj s.b),e.upd.map (·.1)) ::fs)
       | false=>wg C ops g r (i+1) ⟨p8 s.t o.dst (.bool false),bP s.b e.upd⟩ ((aE C o (aI s.t) (aj s.b),e.upd.map (·.1)) ::fs))
      | true,_=>none
      | false,v=>evQ o v fun v=>wg C ops g r (i+1) ⟨p8 s.t o.dst v,bP s.b e.upd⟩ ((aE C o (aI s.t) (aj s.b),e.upd.map (·.1)) ::fs))
     | _,_=>none)
   (fun _=>wg C ops g r (i+1) ⟨p8 s.t o.dst (.tup []),s.b⟩ (([],[]) ::fs))
theorem Ay {C:Cfg} {ops:List Oper} {draw:Bool} {kp:AV→St→Prop} {k:St→List bg→Prop} {s':St} {fs':List bg} (hk:k s' fs') :
  ∀(l:List Oper) (i:Nat) (s:St) (fs:List bg),wg C ops (Ed ops) l i s fs=some (s',fs')→bA C ops draw kp l i s fs k
 | [],_,s,fs,h=>by
  simp only [wg,Xs,Prod.mk.injEq] at h
  obtain ⟨rfl,rfl⟩:=h
  exact hk
 | o ::r,i,s,fs,h=>by
  have ih:=Ay (C:=C) (ops:=ops) (draw:=draw) (kp:=kp) hk r
  rw [wg,HI] at h
  refine yG (on':=fun _=>
   match au C o (aI s.t) (aj s.b) with
   | none=>False
   | some e=>
    p9 e.ob
    (match bN C o (aI s.t) (aj s.b) with
    | none=>
     (match fk ops i,e.val with
     | true,.bool b=>
      sp b (bA C ops draw kp r (i+1) (s.put o.dst {e with val:=.bool true}) ((aE C o (aI s.t) (aj s.b),e.upd.map (·.1)) ::fs) k)
       (bA C ops draw kp r (i+1) (s.put o.dst {e with val:=.bool false}) ((aE C o (aI s.t) (aj s.b),e.upd.map (·.1)) ::fs) k)
     | true,_=>False
     | false,_=>bA C ops draw kp r (i+1) (s.put o.dst e) ((aE C o (aI s.t) (aj s.b),e.upd.map (·.1)) ::fs) k)
    | some (b,pv,u)=>
     (match fk ops i with
     | true=>False
     | false=>sp b (th C ops draw kp r i s fs (aE C o (aI s.t) (aj s.b),e.upd.map (·.1)) pv u) (bA C ops draw kp r (i+1) (s.put o.dst e) ((aE C o (aI s.t) (aj s.b),e.upd.map (·.1)) ::fs) k))))
   (off':=fun _=>bA C ops draw kp r (i+1) ⟨p8 s.t o.dst (.tup []),s.b⟩ (([],[]) ::fs) k) ?_ (fun h=>ih _ _ _ h) h
  intro h
  split at h
  ·cases h
  ·rename_i e he
   split at h
   ·rename_i ho hp
    refine BY ho ?_
    try simp only [hp]
    split at h
    ·rename_i b hg hv
     try simp only [hg,hv]
     split at h
     ·exact ih _ _ _ h
     ·exact ih _ _ _ h
    ·cases h
    ·rename_i v hg
     simp only [HG] at h
     try simp only [hg]
     exact ih _ _ _ h
   ·cases h
def Gc (ops:List Oper) (i j:Nat):Bool:=((dX ops).getD j 0).testBit i
def lh:Nat→List bg→List (Nat × bg)
 | _,[]=>[]
 | i,f ::r=>match f with | ([],[])=>lh (i+1) r | f=>(i,f) ::lh (i+1) r
def nt (ops:List Oper):List (Nat × bg)→Bool
 | []=>true
 | x ::r=>r.all (fun p=>Gc ops x.1 p.1 || db x.2 p.2) && nt ops r
def Az (ops:List Oper):Bool:=
 ((List.range ops.length).all fun j=>(List.range j).all fun i=>Gc ops i j || (match nth ops i,nth ops j with | some x,some y=>fK ops x y | _,_=>false)) &&
 (ops.zipIdx.all fun (o,j)=>o.after.all fun e=>!Region.binds .any e || Nat.blt e.on j)
def yH (ops:List Oper) (fs:List bg):Bool:=Az ops && fg fs ops.length && nt ops (lh 0 fs)
theorem qO {α:Type}:∀{l:List α} {i:Nat},i < l.length→∃x,nth l i=some x
 | a ::_,0,_=>⟨a,rfl⟩
 | _ ::r,i+1,h=>qO (l:=r) (Nat.lt_of_succ_lt_succ h)
theorem sy:∀{fs:List bg} {i0 k:Nat} {f:bg},nth fs k=some f→f≠([],[])→(i0+k,f)∈lh i0 fs
 | g ::r,i0,0,f,h,hf=>by
  cases h
  unfold lh
  split
  ·exact absurd rfl hf
  ·exact List.mem_cons_self ..
 | g ::r,i0,k+1,f,h,hf=>by
  have ih:=sy (fs:=r) (i0:=i0+1) (k:=k) h hf
  rw [show i0+(k+1)=i0+1+k by omega]
  unfold lh
  split
  ·exact ih
  ·exact List.mem_cons_of_mem _ ih
theorem nX {ops:List Oper}:∀{fs:List bg} {i0 a b:Nat} {f g:bg},nt ops (lh i0 fs)=true→a < b→nth fs a=some f→nth fs b=some g→f≠([],[])→g≠([],[])→(Gc ops (i0+a) (i0+b) || db f g)=true
 | x ::r,i0,0,b+1,f,g,h,_,hf,hg,h1,h2=>by
  cases hf
  have hm:=sy (fs:=r) (i0:=i0+1) (k:=b) hg h2
  unfold lh at h
  split at h
  ·exact absurd rfl h1
  ·unfold nt at h
   rw [Bool.and_eq_true,List.all_eq_true] at h
   have:=h.1 _ hm
   rwa [show i0+1+b=i0+(b+1) by omega] at this
 | x ::r,i0,a+1,b+1,f,g,h,hab,hf,hg,h1,h2=>by
  have hr:nt ops (lh (i0+1) r)=true:=by
   unfold lh at h
   split at h
   ·exact h
   ·unfold nt at h
    rw [Bool.and_eq_true] at h
    exact h.2
  have:=nX (fs:=r) (i0:=i0+1) (a:=a) (b:=b) hr (by omega) hf hg h1 h2
  rwa [show i0+1+a=i0+(a+1) by omega,show i0+1+b=i0+(b+1) by omega] at this
theorem yI (g:bg):db ([],[]) g=true:=by
 unfold db pa
 simp
theorem wh (f:bg):db f ([],[])=true:=by
 unfold db pa
 simp
theorem mz {α:Type}:∀{l:List α} {n:Nat},fg l n=true→l.length=n
 | [],0,_=>rfl
 | _ ::r,n+1,h=>by rw [List.length_cons,mz (l:=r) h]
theorem BZ {ops:List Oper} {fs:List bg} (h:yH ops fs=true):ed ops fs=true:=by
 unfold yH Az at h
 simp only [Bool.and_eq_true,List.all_eq_true,List.mem_range] at h
 obtain ⟨⟨⟨h1,h2⟩,h3⟩,h4⟩:=h
 have hl:=mz h3
 unfold ed
 rw [Bool.and_eq_true]
 refine ⟨?_,by rw [List.all_eq_true];intro p hp;have:=h2 p hp;exact (by obtain ⟨o,j⟩:=p;simpa using this)⟩
 rw [List.all_eq_true]
 intro j hj
 rw [List.all_eq_true]
 intro i hi
 rw [List.mem_range] at hj hi
 have k:=h1 j hj i hi
 rw [Bool.or_eq_true] at k ⊢
 rcases k with k | k
 ·exact .inl k
 obtain ⟨x,hx⟩:=qO (l:=ops) (i:=i) (by omega)
 obtain ⟨y,hy⟩:=qO (l:=ops) (i:=j) hj
 obtain ⟨f,hf⟩:=qO (l:=fs) (i:=i) (by omega)
 obtain ⟨g,hg⟩:=qO (l:=fs) (i:=j) (by omega)
 rw [hx,hy] at k
 rw [hx,hy,hf,hg]
 have q:Gc ops i j=true∨db f g=true:=by
  by_cases c1:f=([],[])
  ·rw [c1];exact .inr (yI g)
  ·by_cases c2:g=([],[])
   ·rw [c2];exact .inr (wh f)
   ·have:=nX h4 hi hf hg c1 c2
    rw [Nat.zero_add,Nat.zero_add,Bool.or_eq_true] at this
    exact this
 rcases q with q | q
 ·exact .inl q
 ·exact .inr (by rw [Bool.and_eq_true];exact ⟨k,q⟩)
end Go.AL
end
noncomputable section
namespace Go.AL
variable [Tabs]
def Ee:List (Nat × SObj)→Nat→Nat
 | [],m=>m *1000+998
 | (i,_) ::r,m=>Ee r (match Nat.ble m (i / 1000) with | true=>i / 1000+1 | false=>m)
def uh:List Nat→St→Option St
 | [],s=>some s
 | i ::r,s=>(match Fk i (Ee s.b 100) s with | some s=>uh r s | none=>none)
theorem mA {F:Fr} {a:Act}:∀(l:List Nat) {s s':St} {Ω:Om},Holds F s.abs a Ω→uh l s=some s'→∃Ω',Ω'.w=Ω.w/\Holds F s'.abs a Ω'
 | [],s,s',Ω,h,hr=>by cases hr;exact ⟨Ω,rfl,h⟩
 | i ::r,s,s',Ω,h,hr=>by
  unfold uh at hr
  split at hr
  ·rename_i s1 h1
   obtain ⟨Ω1,e1,g1⟩:=qb h h1
   obtain ⟨Ω2,e2,g2⟩:=mA r g1 hr
   exact ⟨Ω2,e2.trans e1,g2⟩
  ·cases hr
def yJ (ops:List Oper) (s:St):Option St:=
 match enter ops s with
 | some s'=>some s'
 | none=>(match uh ((s.b.map (·.1)).filter fun i=>zJ (pc ops) (tj ops) i && !b8 i) s with | some s'=>enter ops s' | none=>none)
theorem ui {F:Fr} {ops:List Oper} {s s':St} {a:Act} {Ω:Om} (h:Holds F s.abs a Ω) (he:yJ ops s=some s'):∃Ω',Ω'.w=Ω.w/\Holds F s'.abs a Ω':=by
 unfold yJ at he
 split at he
 ·rename_i s1 h1;cases he;exact k9 h h1
 ·split at he
  ·rename_i s1 h1
   obtain ⟨Ω1,e1,g1⟩:=mA _ h h1
   obtain ⟨Ω2,e2,g2⟩:=k9 g1 he
   exact ⟨Ω2,e2.trans e1,g2⟩
  ·cases he
end Go.AL
end
noncomputable section
namespace Go.AL
def Ef (k:Nat) (s:St):Option St:=
 match aj s.b k with
 | some (.tailp τ n x)=>
  if ((s.t.flatMap (fun y=>lensV k y.2)++s.b.flatMap (fun y=>GJ k y.2)).all fun m=>Nat.beq m n)=true then
   some ⟨s.t.map fun y=>(y.1,finV k τ x y.2),(oe s.b k (.tail τ (n+1))).map fun y=>(y.1,AO k τ x y.2)⟩ else none
 | _=>some s
def AA:List Nat→St→Option St
 | [],s=>some s
 | k ::r,s=>(match Ef k s with | some s=>AA r s | none=>none)
theorem sA {n:Nat} {q:Prop} (hq:q):∀l:List Nat,(l.all fun m=>Nat.beq m n)=true→tm n l q
 | [],_=>hq
 | m ::r,h=>by
  rw [List.all_cons,Bool.and_eq_true] at h
  exact ⟨Nat.eq_of_beq_eq_true h.1,sA hq r h.2⟩
theorem Eg {k:Nat} {s s':St} {Q:St→Prop} (h:Ef k s=some s') (hq:Q s'):xz k s Q:=by
 unfold Ef at h
 unfold xz
 generalize hb:aj s.b k=b at h ⊢
 cases b with
 | none=>cases h;exact hq
 | some o=>
  cases o with
  | tailp τ n x=>
   dsimp only at h ⊢
   split at h
   ·rename_i ha
    cases h
    exact sA hq _ ha
   ·cases h
  | _=>cases h;exact hq
theorem wi {Q:St→Prop} {s':St} (hq:Q s'):∀(l:List Nat) (s:St),AA l s=some s'→pd l s Q
 | [],s,h=>by cases h;exact hq
 | k ::r,s,h=>by
  unfold AA at h
  split at h
  ·rename_i s1 h1
   exact Eg h1 (wi hq r s1 h)
  ·cases h
def trimM (keep:Nat) (s:St):St:=⟨s.t.filter fun x=>Nat.beq (Nat.land (Nat.shiftRight keep x.1) 1) 1,s.b⟩
def HJ (C:Cfg) (keep:Nat) (ops:Array Oper) (draw:Bool) (s:St):Option St:=
 match wg C ops.toList (Ed ops.toList) ops.toList 0 s [] with
 | none=>none
 | some (s,fs)=>
  match AA (oA s.b) s with
  | none=>none
  | some s=>
   match draw with
   | false=>evS (trimM keep s) some
   | true=>(match yH ops.toList fs with | true=>evS (trimM keep s) some | false=>none)
theorem Holds.trimM [Tabs] {F:Fr} {s:St} {a:Act} {Ω:Om} (h:Holds F s.abs a Ω) (keep:Nat):Holds F (trimM keep s).abs a Ω:=by
 refine ⟨fun i=>?_,h.size,h.defers,h.slots,h.dom,h.inj,h.pubok,h.keep,h.frame⟩
 have e:(AL.trimM keep s).abs.T i=if Nat.beq (Nat.land (Nat.shiftRight keep i) 1) 1=true then aI s.t i else .undef:=iw s.t (fun i=>Nat.beq (Nat.land (Nat.shiftRight keep i) 1) 1) i
 rw [e]
 split
 ·exact h.tmps i
 ·exact .undef _
theorem yK [Tabs] {P:Program} {C:Cfg} {F:Fr} (hm:P.follows .mixedOrders=true) (hT:aO P C.tbl) (hS:bB P C.spec) {keep:Nat} {id:Nat} {ops:Array Oper} {draw:Bool} {s s':St} {a:Act} {Ω:Om}
  (hdst:∀(o:Oper),o∈ops.toList→∀d,o.dst=some d→d < F.n) (h:HJ C keep ops draw s=some s') (hh:Holds F s.abs a Ω):(Code.region id ops draw).wp P (QL F fun y t=>y=.normal/\t=s') a Ω.w:=by
 have key:bA C ops.toList draw (fun _ _=>False) ops.toList 0 s [] fun s2 fs=>H7 s2 fun s3=>s'=trimM keep s3/\(draw=true→ed ops.toList fs=true):=by
  unfold HJ at h
  split at h
  ·cases h
  ·rename_i s1 fs h1
   refine Ay ?_ _ _ _ _ h1
   split at h
   ·cases h
   ·rename_i s2 h2
    refine wi ?_ _ _ h2
    split at h
    ·rw [Ec] at h
     cases h
     exact ⟨rfl,fun q=>by cases q⟩
    ·split at h
     ·rename_i hi
      rw [Ec] at h
      cases h
      exact ⟨rfl,fun _=>BZ hi⟩
     ·cases h
 refine lZ hm hT hS hdst key (fun hdr s2 fs hk=>let ⟨s3,h3⟩:=mX _ hk;h3.2 hdr) hh (fun s2 fs a' Ω' hk h'=>
   let ⟨s3,Ω3,g1,g2,g3⟩:=q9 h' hk
   ⟨.normal,trimM keep s3,Ω3,rfl,g1,g2.trimM keep,rfl,g3.1.symm⟩)
  (fun pv s2 a' Ω' v hk _ _=>hk.elim)
def AB (f:St→Option (SX × St)):Nat→St→Option (SX × St)
 | 0,_=>none
 | n+1,s=>
  match f s with
  | some (.normal,s')=>AB f n s'
  | r=>r
def j8 (C:Cfg) (keep:Nat) (pubs:List (Nat × List Nat)) (N:Nat):Code→St→Option (SX × St)
 | .skip,s=>some (.normal,s)
 | .seq a b,s=>
  (match j8 C keep pubs N a s with
  | some (.normal,s')=>j8 C keep pubs N b s'
  | r=>r)
 | .cond c a b,s=>
  (match opd (aI s.t) c with
  | .bool true=>j8 C keep pubs N a s
  | .bool false=>j8 C keep pubs N b s
  | _=>none)
 | .block id c,s=>
  (match j8 C keep pubs N c s with
  | some (.exit j,s')=>if j ==id then some (.normal,s') else some (.exit j,s')
  | r=>r)
 | .exit id,s=>some (.exit id,s)
 | .scope c,s=>j8 C keep pubs N c s
 | .label _,s=>some (.normal,s)
 | .ret,s=>some (.ret,s)
 | .region id ops draw,s=>
  (match mH (rU pubs id) s with
  | none=>none
  | some s=>
   match yJ ops.toList s with
   | none=>none
   | some s=>
    match HJ C keep ops draw s with
    | some s=>some (.normal,s)
    | none=>none)
 | .loop c,s=>AB (j8 C keep pubs N c) N s
 | _,_=>none
variable [Tabs]
variable {P:Program} {C:Cfg} {F:Fr}
theorem yL (hm:P.follows .mixedOrders=true) (hT:aO P C.tbl) (hS:bB P C.spec) (keep:Nat) (pubs:List (Nat × List Nat)) (N:Nat) :
  ∀(c:Code) (s:St) (x:SX) (s':St) (a:Act) (Ω:Om),j8 C keep pubs N c s=some (x,s')→bk F.n c=true→Holds F s.abs a Ω→c.wp P (QL F fun y t=>y=x/\t=s') a Ω.w:=by
 intro c
 induction c with
 | skip=>intro s x s' a Ω h _ hh;cases h;exact wp_skip ⟨.normal,s,Ω,rfl,rfl,hh,rfl,rfl⟩
 | region id ops draw=>
  intro s x s' a Ω h hd hh
  unfold j8 at h
  split at h
  ·cases h
  ·rename_i s0 h0
   obtain ⟨Ω0,e0,g0⟩:=jt _ hh h0
   split at h
   ·cases h
   ·rename_i s1 h1
    obtain ⟨Ω1,e1,g1⟩:=ui g0 h1
    have hdst:∀(o:Oper),o∈ops.toList→∀d,o.dst=some d→d < F.n:=by
     intro o ho d hod
     simp only [bk,List.all_eq_true] at hd
     have:=hd o ho
     rw [hod] at this
     simpa using this
    split at h
    ·rename_i s2 h2
     cases h
     rw [←e0,←e1]
     exact yK hm hT hS hdst h2 g1
    ·cases h
 | seq x y ihx ihy=>
  intro s z s' a Ω h hd hh
  simp only [bk,Bool.and_eq_true] at hd
  unfold j8 at h
  cases h1:j8 C keep pubs N x s with
  | none=>rw [h1] at h;cases h
  | some r=>
   obtain ⟨e1,s1⟩:=r
   rw [h1] at h
   refine wp_seq (wp_mono (ihx s e1 s1 a Ω h1 hd.1 hh) ?_)
   intro e a' w' hq
   obtain ⟨e2,s2,Ω',g1,g2,g3,g4,g5⟩:=hq
   subst g2 g4 g5
   cases e2 with
   | normal=>cases g1;exact ihy _ z s' a' Ω' h hd.2 g3
   | exit id=>cases g1;cases h;exact ⟨.exit id,_,Ω',rfl,rfl,g3,rfl,rfl⟩
   | ret=>cases g1;cases h;exact ⟨.ret,_,Ω',rfl,rfl,g3,rfl,rfl⟩
   | pan pv=>obtain ⟨v,rfl,hv⟩:=g1;cases h;exact ⟨.pan pv,_,Ω',⟨v,rfl,hv⟩,rfl,g3,rfl,rfl⟩
 | cond c x y ihx ihy=>
  intro s z s' a Ω h hd hh
  simp only [bk,Bool.and_eq_true] at hd
  unfold j8 at h
  have hv:=aS hh c
  split at h
  ·rename_i hb
   have hb':opd s.abs.T c=.bool true:=hb
   rw [hb'] at hv
   exact wp_cond hv.bool_inv (ihx _ z s' a Ω h hd.1 hh)
  ·rename_i hb
   have hb':opd s.abs.T c=.bool false:=hb
   rw [hb'] at hv
   exact wp_cond hv.bool_inv (ihy _ z s' a Ω h hd.2 hh)
  ·cases h
 | block id c ih=>
  intro s z s' a Ω h hd hh
  simp only [bk] at hd
  unfold j8 at h
  cases h1:j8 C keep pubs N c s with
  | none=>rw [h1] at h;cases h
  | some r=>
   obtain ⟨e1,s1⟩:=r
   rw [h1] at h
   refine wp_block (wp_mono (ih s e1 s1 a Ω h1 hd hh) ?_)
   intro e a' w' hq
   obtain ⟨e2,s2,Ω',g1,g2,g3,g4,g5⟩:=hq
   subst g2 g4 g5
   cases e2 with
   | normal=>cases g1;cases h;exact ⟨.normal,_,Ω',rfl,rfl,g3,rfl,rfl⟩
   | ret=>cases g1;cases h;exact ⟨.ret,_,Ω',rfl,rfl,g3,rfl,rfl⟩
   | pan pv=>obtain ⟨v,rfl,hv⟩:=g1;cases h;exact ⟨.pan pv,_,Ω',⟨v,rfl,hv⟩,rfl,g3,rfl,rfl⟩
   | exit j=>
    cases g1
    simp only [yf,Exit.inBlock]
    by_cases hj:j=id
    ·subst hj
     simp only [beq_self_eq_true,if_true] at h
     cases h
     simp only [if_true]
     exact ⟨.normal,_,Ω',rfl,rfl,g3,rfl,rfl⟩
    ·simp only [beq_iff_eq,hj,if_false] at h
     cases h
     rw [if_neg hj]
     exact ⟨.exit j,_,Ω',rfl,rfl,g3,rfl,rfl⟩
 | loop c ih=>
  intro s z s' a Ω h hd hh
  simp only [bk] at hd
  unfold j8 at h
  refine wp_loop_rounds N ?_
  have key:∀(n:Nat) (s:St) (a:Act) (Ω:Om),AB (j8 C keep pubs N c) n s=some (z,s')→Holds F s.abs a Ω→Code.rounds P c (QL F fun y t=>y=z/\t=s') n a Ω.w:=by
   intro n
   induction n with
   | zero=>intro s a Ω h _;cases h
   | succ n ihn=>
    intro s a Ω h hh
    rw [rounds_succ]
    unfold AB at h
    cases h1:j8 C keep pubs N c s with
    | none=>rw [h1] at h;cases h
    | some r=>
     obtain ⟨e1,s1⟩:=r
     rw [h1] at h
     refine wp_mono (ih s e1 s1 a Ω h1 hd hh) ?_
     intro e a' w' hq
     obtain ⟨e2,s2,Ω',g1,g2,g3,g4,g5⟩:=hq
     subst g2 g4 g5
     cases e2 with
     | normal=>cases g1;exact ihn _ a' Ω' h g3
     | exit id=>cases g1;cases h;exact ⟨.exit id,_,Ω',rfl,rfl,g3,rfl,rfl⟩
     | ret=>cases g1;cases h;exact ⟨.ret,_,Ω',rfl,rfl,g3,rfl,rfl⟩
     | pan pv=>obtain ⟨v,rfl,hv⟩:=g1;cases h;exact ⟨.pan pv,_,Ω',⟨v,rfl,hv⟩,rfl,g3,rfl,rfl⟩
  exact key N s a Ω h hh
 | exit id=>intro s x s' a Ω h _ hh;cases h;exact wp_exit ⟨.exit id,s,Ω,rfl,rfl,hh,rfl,rfl⟩
 | ret=>intro s x s' a Ω h _ hh;cases h;exact wp_ret ⟨.ret,s,Ω,rfl,rfl,hh,rfl,rfl⟩
 | rangeFunc g ps x y _ _=>intro s z s' a Ω h;cases h
 | scope c ih=>
  intro s z s' a Ω h hd hh
  simp only [bk] at hd
  unfold j8 at h
  refine wp_scope_straight (wp_mono (ih s z s' a Ω h hd hh) ?_)
  intro e a' w' hq
  obtain ⟨e2,s2,Ω',h1,h2,h3,h4⟩:=hq
  cases e2 with
  | normal=>cases h1;exact ⟨.normal,_,Ω',rfl,h2,h3,h4⟩
  | exit id=>cases h1;exact ⟨.exit id,_,Ω',rfl,h2,h3,h4⟩
  | ret=>cases h1;exact ⟨.ret,_,Ω',rfl,h2,h3,h4⟩
  | pan pv=>obtain ⟨v,rfl,hv⟩:=h1;exact ⟨.pan pv,_,Ω',⟨v,rfl,hv⟩,h2,h3,h4⟩
 | label l=>intro s x s' a Ω h _ hh;cases h;exact wp_label ⟨.normal,s,Ω,rfl,rfl,hh,rfl,rfl⟩
 | goto l=>intro s z s' a Ω h;cases h
 | refuse why=>intro s z s' a Ω h;cases h
end Go.AL
end
noncomputable section
namespace Go.AL
variable [Tabs]
def HK:AV→Bool
 | .ptr k 0=>b8 k
 | _=>false
def ptrIn (ks:List Nat):AV→Bool
 | .ptr k _=>ks.contains k
 | _=>false
def Gd (ks:List Nat) (t:List (Nat × AV)):List (Nat × AV):=t.map fun x=>(x.1,if ptrIn ks x.2 then x.2 else .undef)
structure RC where
 r0:Code
 rest:Code
 crest:Code
 t5:Nat
 caps:List Operand
 t6:Nat
 t3:Nat
def HL (g:Nat) (c cc:Code):Option RC:=
 match c,cc with
 | .seq r0 (.seq (.region _ o1 false) rest),.seq (.region _ o2 false) crest=>
  match o1.toList,o2.toList with
  | [⟨some t5,.makeFunc (.func g') fst caps,_,_,_,none⟩,⟨none,.defer ⟨.value (.tmp t5'),asx,_⟩,_,_,_,none⟩],
   [⟨some t6,.call ⟨.builtin .recover,as2,_⟩,_,_,_,none⟩,⟨some t3,.assign (.tmp t6'),_,_,_,none⟩]=>
   if Nat.beq g' g && Nat.beq t5' t5 && Nat.beq t6' t6 && fst.isEmpty && asx.isEmpty && as2.isEmpty then some ⟨r0,rest,crest,t5,caps.toList,t6,t3⟩ else none
  | _,_=>none
 | _,_=>none
def Eh (C:Cfg) (rs:List ResultVar) (L:List cQ) (s1:St) (S1:List (Nat × SObj)) (S:List (Nat × SObj)) (A:Ans) (t2:List (Nat × AV)) (s3:St):Prop:=
 match aX (aG s3.b) && (aG S1).all (fun k=>(aG s3.b).contains k) with
 | true=>
  match jF C.tbl ⟨Gd (aG S1) t2,s3.b⟩ rs with
  | some l=>
   (match jD (aj s1.b) L 998 (gC S1 s3.b),mapVs (nC L 998) (gB L 998) (gB L 998) l with
   | some u',some l'=>eU ⟨[],bP s1.b u'⟩ fun s4=>rW (some l') s4 A.val (bP S A.upd)
   | _,_=>False)
  | none=>False
 | false=>False
def wj (C:Cfg) (annC:An) (clo:Func) (R:RC) (caps:List AV) (v:AV) (s2:St) (fin:St→Prop):Prop:=
 iq (List.range clo.ntmps) fun keep=>eU ⟨fH (cA 0 caps) R.t3 v,s2.b⟩ fun s=>swp C keep annC R.crest s fun
  | .exit _,_=>False
  | .pan _,_=>False
  | _,s3=>fin s3
def fwpR (C:Cfg) (ann annC:An) (fn:Func) (g:Nat) (clo:Func) (args:List AV) (S:List (Nat × SObj)) (A:Ans):Prop:=
 match fn.body,clo.body,A.pan with
 | some c,some cc,none=>
  match HL g c cc with
  | none=>False
  | some R=>
   match bk fn.ntmps c && bk clo.ntmps cc && Nat.blt R.t5 fn.ntmps && kY args fn.ntmps && (aG S).all b8 && clo.results.isEmpty && kY R.caps clo.ntmps && kY R.caps R.t6 with
   | false=>False
   | true=>iq ((List.range fn.ntmps)) fun keep=>eU ⟨cA 0 args,S⟩ fun i=>swp C keep ann R.r0 i fun
    | .normal,s1=>
     (match (aG s1.b).map (fun i=>(i,(none:Option (Nat × Nat)))) with
     | L=>
      (match aX (L.map (·.1)) && Nat.ble L.length 100,mapVs (toP L) (toI L) (toI L) ((List.range fn.ntmps).map (aI s1.t)),mapVs (toP L) (toI L) (toI L) (R.caps.map (opd (aI s1.t))),lN (aj s1.b) L L 900 with
      | true,some as1,some caps,some S1=>
       (match caps.all HK with
       | true=>eU ⟨fH (cA 0 as1) R.t5 .undef,S1⟩ fun i=>swp C keep ann R.rest i fun
        | .exit _,_=>False
        | .pan v,s2=>wj C annC clo R caps v s2 (Eh C fn.results.toList L s1 S1 S A s2.t)
        | _,s2=>wj C annC clo R caps .nilif s2 (Eh C fn.results.toList L s1 S1 S A s2.t)
       | false=>False)
      | _,_,_,_=>False))
    | _,_=>False
 | _,_,_=>False
theorem nu:∀(u S:List (Nat × SObj)) (i:Nat),aX (u.map (·.1))=true→aj (bP S u) i=(aj u i).or (aj S i)
 | [],S,i,_=>by simp [bP,aJ,aF]
 | (j,o) ::r,S,i,h=>by
  simp only [List.map_cons,aX,Bool.and_eq_true,Bool.not_eq_true'] at h
  simp only [bP]
  rw [nu r _ i h.2,gO]
  simp only [aJ,aF]
  by_cases e:j=i
  ·subst e
   have:aj r j=none:=by
    cases hb:aj r j with
    | none=>rfl
    | some o'=>
     have:=bQ r j o' hb
     have h1:=h.1
     simp only [List.contains_eq_mem,decide_eq_false_iff_not,List.mem_map,not_exists,not_and] at h1
     exact absurd rfl (h1 _ this)
   simp [this]
  ·simp [e]
section
variable {P:Program} {C:Cfg}
theorem V.pinned {e0 e:Nat→Option CObj} {w0 w:World} {p0 p:Nat→Nat→Prop} (hk:∀id c,e0 id=some c→∃c',e id=some c'/\CLe c c') {a:AV} {v:Value} (ha:HK a=true) (h:V ⟨e0,w0,p0⟩ a v):V ⟨e,w,p⟩ a v:=by
 cases h with
 | ptr i o b q len he=>
  obtain ⟨c',h1,h2⟩:=hk i _ he
  have:=h2.box
  subst this
  exact .ptr i o b q len h1
 | _=>simp [HK] at ha
theorem Holds.retmp' {F:Fr} {s:AS} {a a':Act} {Ω:Om} (h:Holds F s a Ω) {n:Nat} {ds:List Deferred} {T:Nat→AV} (hT:∀i,V Ω (T i) (a'.tmps.getD i undef)) (hs:a'.tmps.size=n) (hd:a'.defers=ds) :
  Holds ⟨F.w0,F.pub0,n,F.e0,F.dom0,ds,F.tab0⟩ ⟨T,s.B⟩ a' Ω:=
 ⟨hT,hs,hd,h.slots,h.dom,h.inj,h.pubok,h.keep,⟨h.frame.os,h.frame.tape,h.frame.output,h.frame.size,h.frame.block,h.frame.cell,h.frame.kind,h.frame.pub,h.frame.old,h.frame.pcell⟩⟩
inductive Rcv:FrameMode→AV→Om→Value→FrameMode→Prop
 | ret (Ω:Om):Rcv .returning .nilif Ω .nilIface .returning
 | pan (Ω:Om) (a:AV) (v:Value):V Ω a v→Rcv (.panicking [{v,recovered:=false}]) a Ω v (.panicking [{v,recovered:=true}])
structure RCcode (g:Nat) (R:RC) (c cc:Code):Prop where
 code:∃i1 i2 ty1 ps1 af1 ty2 ps2 af2 ts2 ty3 ps3 af3 ts3 ty4 ps4 af4,
  c=.seq R.r0 (.seq (.region i1 #[⟨some R.t5,.makeFunc (.func g) #[] R.caps.toArray,ty1,ps1,af1,none⟩,⟨none,.defer ⟨.value (.tmp R.t5),#[],ts2⟩,ty2,ps2,af2,none⟩] false) R.rest)/\
  cc=.seq (.region i2 #[⟨some R.t6,.call ⟨.builtin .recover,#[],ts3⟩,ty3,ps3,af3,none⟩,⟨some R.t3,.assign (.tmp R.t6),ty4,ps4,af4,none⟩] false) R.crest
theorem Ei {g:Nat} {c cc:Code} {R:RC} (h:HL g c cc=some R):RCcode g R c cc:=by
 unfold HL at h
 split at h
 ·rename_i r0 i1 o1 rest i2 o2 crest
  split at h
  ·rename_i h1 h2
   split at h
   ·rename_i hc
    simp only [Bool.and_eq_true,Nat.beq_eq,Array.isEmpty_iff] at hc
    obtain ⟨⟨⟨⟨⟨rfl,rfl⟩,rfl⟩,rfl⟩,rfl⟩,rfl⟩:=hc
    simp only [Xs] at h
    subst h
    have e1:=congrArg List.toArray h1
    have e2:=congrArg List.toArray h2
    simp only [Array.toArray_toList] at e1 e2
    subst e1 e2
    exact ⟨_,_,_,_,_,_,_,_,_,_,_,_,_,_,_,_,rfl,rfl⟩
   ·cases h
  ·cases h
 ·cases h
theorem nY {ts:Array Nat} {d:Option Nat} {ty:Nat} {ps:String} {af:Array Edge} {ρ:Operand→Value} {w:World} :
  (execOp ρ ⟨d,.call ⟨.builtin .recover,#[],ts⟩,ty,ps,af,none⟩).run P w=.ok .recover w:=by
 simp [execOp,resolve,invoke,builtin]
theorem yM (hm:P.follows .mixedOrders=true) (hT:aO P C.tbl) (hS:bB P C.spec) {g:Nat} {clo:Func} {c cc:Code} {R:RC} (hR:RCcode g R c cc) (hg:P.funcs[g]?=some clo) (hb:clo.body=some cc)
  (hd:bk clo.ntmps cc=true) (hres:clo.results=#[]) {caps:List AV} (hcl:caps.length<=clo.ntmps) (hc6:caps.length<=R.t6) {F:Fr} {s2:St} {a2:Act} {Ω2:Om} (h:Holds F s2.abs a2 Ω2) {vs:List Value} (hv:VL Ω2 caps vs)
  {u u':FrameMode} {av:AV} {v:Value} (hrc:Rcv u av Ω2 v u') {annC:An} {fin:St→Prop} (hc:wj C annC clo R caps av s2 fin) :
  CallsD P g vs.toArray u Ω2.w fun en u2 w'=>u2=u'/\en=.returned (.tuple #[])/\∃s3 Ω3 a3 T,Ω3.w=w'/\fin s3/\Holds ⟨F.w0,F.pub0,clo.ntmps,F.e0,F.dom0,[],F.tab0⟩ ⟨T,aj s3.b⟩ a3 Ω3:=by
 obtain ⟨i1,i2,ty1,ps1,af1,ty2,ps2,af2,ts2,ty3,ps3,af3,ts3,ty4,ps4,af4,_,rfl⟩:=hR
 refine callsD_of_wpS hg hb (fun c₀ cs hu=>?_)
 apply wpS_seq
 apply wpS_region
 simp only [bk,Bool.and_eq_true,List.all_cons,List.all_nil,Bool.and_true,Nat.blt_eq] at hd
 obtain ⟨⟨hd6,hd3⟩,hdc⟩:=hd
 have hvs:vs.length<=clo.ntmps:=by rw [←hv.1];exact hcl
 have hbase:Holds ⟨F.w0,F.pub0,clo.ntmps,F.e0,F.dom0,[],F.tab0⟩ ⟨aI (cA 0 caps),aj s2.b⟩ {tmps:=vs.toArray++Array.replicate (clo.ntmps - vs.toArray.size) undef,defers:=[]} Ω2:=
  h.retmp' (fun i=>iR _ hv i) (by simp;omega) rfl
 have key:∃cs',(∃c1,cs'=c1 ::cs/\c1={c₀ with mode:=u'})/\∀Q':Exit→Act→List Frame→World→Prop,Q' .normal (({tmps:=vs.toArray++Array.replicate (clo.ntmps - vs.toArray.size) undef,defers:=[]}:Act).put (some R.t6) v |>.put (some R.t3) v) cs' Ω2.w→
   wpOpsS P #[⟨some R.t6,.call ⟨.builtin .recover,#[],ts3⟩,ty3,ps3,af3,none⟩,⟨some R.t3,.assign (.tmp R.t6),ty4,ps4,af4,none⟩] Q' [0,1] {tmps:=vs.toArray++Array.replicate (clo.ntmps - vs.toArray.size) undef,defers:=[]} (c₀ ::cs) Ω2.w:=by
  have two:∀(cs':List Frame) (Q':Exit→Act→List Frame→World→Prop),Q' .normal (({tmps:=vs.toArray++Array.replicate (clo.ntmps - vs.toArray.size) undef,defers:=[]}:Act).put (some R.t6) v |>.put (some R.t3) v) cs' Ω2.w→
    wpOpsS P #[⟨some R.t6,.call ⟨.builtin .recover,#[],ts3⟩,ty3,ps3,af3,none⟩,⟨some R.t3,.assign (.tmp R.t6),ty4,ps4,af4,none⟩] Q' [1] (({tmps:=vs.toArray++Array.replicate (clo.ntmps - vs.toArray.size) undef,defers:=[]}:Act).put (some R.t6) v) cs' Ω2.w:=by
   intro cs' Q' hq
   have he:(({tmps:=vs.toArray++Array.replicate (clo.ntmps - vs.toArray.size) undef,defers:=[]}:Act).put (some R.t6) v).eval (.tmp R.t6)=v:=by
    show (Act.put _ (some R.t6) v).tmps.getD R.t6 undef=v
    rw [bW hbase.size hd6,if_pos rfl]
   unfold wpOpsS
   simp only [List.getElem?_toArray,List.getElem?_cons_succ,List.getElem?_cons_zero,Region.wanted,if_true]
   have hr:(execOp (({tmps:=vs.toArray++Array.replicate (clo.ntmps - vs.toArray.size) undef,defers:=[]}:Act).put (some R.t6) v).eval ⟨some R.t3,.assign (.tmp R.t6),ty4,ps4,af4,none⟩).run P Ω2.w=.ok (.value v) Ω2.w:=by
    show (pure (Next.value (Act.eval _ (.tmp R.t6))):Sem Next).run P Ω2.w=_
    rw [he]
    rfl
   rw [hr]
   simp only [Oper.upon]
   exact hq
  cases hrc with
  | ret=>
   refine ⟨_,⟨c₀,rfl,by cases c₀;simp only at hu;subst hu;rfl⟩,fun Q' hq=>?_⟩
   unfold wpOpsS
   simp only [List.getElem?_toArray,List.getElem?_cons_zero,Region.wanted,if_true]
   rw [nY]
   simp only [recoverD,hu]
   exact two _ Q' hq
  | pan _ _ hv'=>
   refine ⟨_,⟨_,rfl,rfl⟩,fun Q' hq=>?_⟩
   unfold wpOpsS
   simp only [List.getElem?_toArray,List.getElem?_cons_zero,Region.wanted,if_true]
   rw [nY]
   simp only [recoverD,hu]
   exact two _ Q' hq
 obtain ⟨cs',⟨c1,rfl,hc1⟩,key⟩:=key
 refine key _ ?_
 refine wpS_of_wp ?_
 unfold wj at hc
 rw [gX,cE] at hc
 have hav:V Ω2 av v:=by
  cases hrc <;> first | exact .nilif | assumption
 have h1:=(hbase.pure (dst:=some R.t6) (val:=.undef) (v:=v) (.undef v) (fun d e=>by cases e;exact hd6)).pure (dst:=some R.t3) (val:=av) (v:=v) hav (fun d e=>by cases e;exact hd3)
 have h2:Holds ⟨F.w0,F.pub0,clo.ntmps,F.e0,F.dom0,[],F.tab0⟩ (St.abs ⟨fH (cA 0 caps) R.t3 av,s2.b⟩) _ Ω2:=h1.weak (s':=St.abs ⟨fH (cA 0 caps) R.t3 av,s2.b⟩) (fun i=>by
  simp only [St.abs,dR,bf]
  by_cases e3:R.t3=i
  ·right;simp [e3]
  ·by_cases e6:R.t6=i
   ·left
    subst e6
    rw [if_neg e3,fP,if_pos (Nat.zero_le _),Nat.sub_zero]
    simp [List.getD_eq_getElem?_getD,List.getElem?_eq_none hc6]
   ·right;simp [e3,e6]) rfl
 refine wp_mono (kJ hm hT hS _ annC R.crest _ _ _ Ω2 hc hdc h2) ?_
 intro e a' w' hq
 obtain ⟨z,s3,Ω3,q1,q2,q3,q4⟩:=hq
 have fin3:fin s3→bodyPostS P clo c₀ cs (fun en u2 w'=>u2=u'/\en=.returned (.tuple #[])/\∃s3 Ω3 a3 T,Ω3.w=w'/\fin s3/\Holds ⟨F.w0,F.pub0,clo.ntmps,F.e0,F.dom0,[],F.tab0⟩ ⟨T,aj s3.b⟩ a3 Ω3) .ret a' (c1 ::cs) w':=by
  intro hf
  refine ⟨q3.defers,u',by rw [hc1],.tuple #[],by simp [results,hres],rfl,rfl,s3,Ω3,a',_,q2,hf,q3⟩
 cases z with
 | normal=>cases q1;exact fin3 q4
 | ret=>cases q1;exact fin3 q4
 | exit id=>exact q4.elim
 | pan v=>exact q4.elim
theorem Ca {w:World} {pub:Nat→Nat→Prop} {e:Nat→Option CObj} {n:Nat} {hl:∀id c,e id=some c→b8 id=true} {ds:List Deferred} {ht:gR w pub e} {T:Nat→AV} {t:List (Nat × AV)} {b b':List (Nat × SObj)} {a:Act} {Ω:Om} {l:List AV} {us:List Value} {val:AV}
  (hh:Holds ⟨w,pub,n,e,hl,ds,ht⟩ ⟨T,aj b⟩ a Ω) (k2:VL Ω l us) (hend:rW (some l) ⟨t,b⟩ val b') :
  ∃pub' e',V ⟨e',Ω.w,pub'⟩ val (if h:us.toArray.size=1 then us.toArray[0] else .tuple us.toArray)/\After w pub e (aj b') Ω.w pub' e':=by
 unfold rW at hend
 split at hend
 ·rename_i x hres
  cases hres
  obtain ⟨u,rfl⟩:=iS (by rw [←k2.1];rfl)
  have h1:=hh.retmp' (T:=aI (cA 0 [x])) (a':={tmps:=[u].toArray++Array.replicate 0 undef,defers:=[]}) (n:=1) (ds:=[]) (fun i=>iR 0 k2 i) (by simp) rfl
  obtain ⟨Ω2,e2,hh2⟩:=dr (s:=⟨[(0,x)],b⟩) h1 (gG hend)
  refine ⟨Ω2.pub,Ω2.e,?_,?_⟩
  ·have:=hh2.tmps 0
   rw [←e2]
   exact this
  ·rw [←e2]
   exact gY hh2
 ·rename_i l' hne hres
  cases hres
  split at hend
  ·rename_i rs
   split at hend
   ·rename_i hln
    have hl2:=bE _ _ hln
    have h1:=hh.retmp' (T:=aI (cA 0 l)) (a':={tmps:=us.toArray++Array.replicate 0 undef,defers:=[]}) (n:=us.length) (ds:=[]) (fun i=>iR 0 k2 i) (by simp) rfl
    obtain ⟨Ω2,e2,hh2⟩:=dr (s:=⟨cA 0 l,b⟩) h1 (gG hend)
    have hsz:¬us.toArray.size=1:=by
     intro h1
     obtain ⟨x,hx⟩:=iS (l:=l) (by rw [k2.1];simpa using h1)
     exact hne x hx
    rw [dif_neg hsz]
    refine ⟨Ω2.pub,Ω2.e,?_,?_⟩
    ·refine .tup rs us (by rw [←k2.1,←hl2]) (fun j c v hc hv=>?_)
     have:=hh2.tmps j
     simp only [St.abs,fP,Nat.zero_le,if_true,Nat.sub_zero,List.getD_eq_getElem?_getD,hc,Option.getD_some] at this
     have e3:(us.toArray++Array.replicate 0 undef).getD j undef=v:=by
      simp [Array.getD_eq_getD_getElem?,hv]
     rw [e3] at this
     rw [←e2]
     exact this
    ·rw [←e2]
     exact gY hh2
   ·exact hend.elim
  ·exact hend.elim
 ·rename_i h;cases h
theorem CLe.to_box {c:CObj} {b o l:Nat} (h:CLe c (.box b o l)):c=.box b o l:=by
 cases c <;> simp [CLe] at h
 obtain ⟨rfl,rfl,rfl⟩:=h
 rfl
theorem V.ptrIn {F:Fr} {Ω2 Ω3:Om} {ks:List Nat} (h2:∀id c,F.e0 id=some c→∃c',Ω2.e id=some c'/\CLe c c') (h3:∀id c,F.e0 id=some c→∃c',Ω3.e id=some c'/\CLe c c')
  (hk:∀k∈ks,∃c,F.e0 k=some c) {a:AV} {v:Value} (h:V Ω2 a v):V Ω3 (if AL.ptrIn ks a=true then a else .undef) v:=by
 split
 ·rename_i hp
  cases h with
  | ptr i o b q len he=>
   simp only [AL.ptrIn,List.contains_eq_mem,decide_eq_true_eq] at hp
   obtain ⟨c,hc⟩:=hk i hp
   obtain ⟨c2,e2,l2⟩:=h2 i c hc
   rw [he] at e2
   cases e2
   have:=l2.to_box
   subst this
   obtain ⟨c3,e3,l3⟩:=h3 i _ hc
   have:=l3.box
   subst this
   exact .ptr i o b q len e3
  | _=>simp [AL.ptrIn] at hp
 ·exact .undef v
theorem Cb (hT:aO P C.tbl) {w:World} {pub:Nat→Nat→Prop} {e:Nat→Option CObj} {n n1:Nat} {hl:∀id c,e id=some c→b8 id=true} {ht:gR w pub e} {s1:St} {a1:Act} {Ω1:Om} {L:List cQ} {ht1:gR Ω1.w Ω1.pub (cu L Ω1.e)} (h3:Holds ⟨w,pub,n,e,hl,[],ht⟩ s1.abs a1 Ω1)
  (hdist:aX (L.map (·.1))=true) {S1:List (Nat × SObj)} (hS1:lN (aj s1.b) L L 900=some S1) {hl1:∀id c,cu L Ω1.e id=some c→b8 id=true} (hk1:∀k∈aG S1,∃c,cu L Ω1.e k=some c)
  {ds:List Deferred} {s2:St} {a2:Act} {Ω2:Om} (q3:Holds ⟨Ω1.w,Ω1.pub,n,cu L Ω1.e,hl1,ds,ht1⟩ s2.abs a2 Ω2) {s3:St} {a3:Act} {Ω3:Om} {T:Nat→AV} (h5:Holds ⟨Ω1.w,Ω1.pub,n1,cu L Ω1.e,hl1,[],ht1⟩ ⟨T,aj s3.b⟩ a3 Ω3)
  {fn:Func} {S:List (Nat × SObj)} {A:Ans} (hpan:A.pan=none) (hf:Eh C fn.results.toList L s1 S1 S A s2.t s3) :
  ∃v,(results fn a2.tmps).run P Ω3.w=.ok v Ω3.w/\∃pub' e',(∀b pv u,A.pan=some (b,pv,u)→b=false)/\V ⟨e',Ω3.w,pub'⟩ A.val v/\After w pub e (aj (bP S A.upd)) Ω3.w pub' e':=by
 unfold Eh at hf
 split at hf
 ·rename_i hck
  simp only [Bool.and_eq_true,List.all_eq_true] at hck
  obtain ⟨hd3,hin⟩:=hck
  split at hf
  ·rename_i l hres
   split at hf
   ·rename_i u' l' hu' hl'
    rw [cE] at hf
    have hR:Holds ⟨Ω1.w,Ω1.pub,n,cu L Ω1.e,hl1,ds,ht1⟩ (St.abs ⟨Gd (aG S1) s2.t,s3.b⟩) a2 Ω3:=by
     have:=h5.retmp' (T:=aI (Gd (aG S1) s2.t)) (a':=a2) (n:=n) (ds:=ds) (fun i=>by
      rw [show aI (Gd (aG S1) s2.t) i=if ptrIn (aG S1) (aI s2.t i)=true then aI s2.t i else .undef from lY (fun x=>if ptrIn (aG S1) x=true then x else .undef) (by simp [ptrIn]) s2.t i]
      exact V.ptrIn (F:=⟨Ω1.w,Ω1.pub,n,cu L Ω1.e,hl1,ds,ht1⟩) q3.keep h5.keep hk1 (q3.tmps i)) q3.size q3.defers
     exact this
    obtain ⟨us,k1,k2⟩:=eZ hT hR _ _ hres
    have hmap:(results fn a2.tmps).run P Ω3.w=.ok (if h:us.toArray.size=1 then us.toArray[0] else .tuple us.toArray) Ω3.w:=by
     rw [ly,←Array.toArray_toList (xs:=fn.results),List.mapM_toArray]
     simp only [Sem.run_bind,Sem.run_map,k1,Result.andThen_ok,Sem.run_pure]
    have hB:aj (bP S1 s3.b)=aj s3.b:=by
     funext i
     rw [nu _ _ _ hd3]
     cases h:aj s3.b i with
     | some o=>rfl
     | none=>
      cases h':aj S1 i with
      | none=>rfl
      | some o=>
       have:=hin i (List.mem_map.2 ⟨(i,o),bQ _ _ _ h',rfl⟩)
       simp only [List.contains_eq_mem,decide_eq_true_eq] at this
       exact absurd this (iP _ _ h)
    have hA:After Ω1.w Ω1.pub (cu L Ω1.e) (aj (bP S1 s3.b)) Ω3.w Ω3.pub Ω3.e:=by
     rw [hB]
     exact gY (h5.retmp' (T:=T) (a':=a3) (n:=n1) (ds:=[]) h5.tmps h5.size h5.defers)
    obtain ⟨Ω',w1,w2,w3⟩:=mN h3 (d:=998) (by omega) hdist hS1 hd3 hu' (val:=.tup l) (val':=.tup l') (by simp only [mapV,hl']) (v:=.tuple us.toArray) (V.of_tup k2) hA
    obtain ⟨us',e1,k3⟩:=w2.tup_inv
    have e2:us=us':=by
     have:=congrArg Array.toList (Value.tuple.inj e1)
     simpa using this
    subst e2
    rw [show s1.abs.B=aj s1.b from rfl,←gV] at w3
    obtain ⟨pub',e',p1,p2⟩:=Ca (T:=s1.abs.T) (b:=bP s1.b u') (t:=[]) w3 k3 hf
    rw [w1] at p1 p2
    exact ⟨_,hmap,pub',e',(fun b pv u h=>by rw [hpan] at h;cases h),p1,p2⟩
   ·exact hf.elim
  ·exact hf.elim
 ·exact hf.elim
theorem fwpR_sound (hm:P.follows .mixedOrders=true) (hT:aO P C.tbl) (hS:bB P C.spec) {ann annC:An} {f g:Nat} {fn clo:Func} (hf:P.funcs[f]?=some fn) (hg:P.funcs[g]?=some clo)
  (eg:∀args w,(callFunc g args).run P w=.ok (.enter g args) w) {args:List AV} {S:List (Nat × SObj)} {A:Ans} (h:fwpR C ann annC fn g clo args S A):aD P f args S A:=by
 intro w pub e vs hp ht hv hs hdom hinj
 unfold fwpR at h
 split at h
 ·rename_i c cc hb hcb hpan
  split at h
  ·exact h.elim
  ·rename_i R hR
   split at h
   ·exact h.elim
   ·rename_i hck
    simp only [Bool.and_eq_true,List.all_eq_true,Array.isEmpty_iff,Nat.blt_eq] at hck
    obtain ⟨⟨⟨⟨⟨⟨⟨hk1,hk2⟩,hk5⟩,hk3⟩,hk4⟩,hres⟩,hcl⟩,hc6⟩:=hck
    have hlen:=dF _ _ hk3
    have hcl:=dF _ _ hcl
    have hc6:=dF _ _ hc6
    rw [gX,cE] at h
    have hlent:∀id c,e id=some c→b8 id=true:=by
     intro id c hc
     cases hg:aj S id with
     | none=>rw [hdom id hg] at hc;cases hc
     | some o=>exact hk4 id (List.mem_map.2 ⟨(id,o),bQ _ _ _ hg,rfl⟩)
    have hRc:=Ei hR
    obtain ⟨i1,i2,ty1,ps1,af1,ty2,ps2,af2,ts2,ty3,ps3,af3,ts3,ty4,ps4,af4,rfl,_⟩:=id hRc
    refine calls_of_wp_defers hf hb ?_
    have hh:=jw (n:=fn.ntmps) hp ht hv hlen hs hdom hinj hlent
    have hdr:bk fn.ntmps R.r0=true/\bk fn.ntmps R.rest=true:=by
     simp only [bk,Bool.and_eq_true] at hk1
     exact ⟨hk1.1,hk1.2.2⟩
    refine wp_seq (wp_mono (kJ (F:=⟨w,pub,fn.ntmps,e,hlent,[],ht⟩) hm hT hS _ ann R.r0 _ _ _ _ h hdr.1 hh) ?_)
    intro en a1 w1 hq
    obtain ⟨z,s1,Ω1,q1,rfl,h3,h4⟩:=hq
    cases z with
    | exit id=>exact h4.elim
    | ret=>exact h4.elim
    | pan pv=>exact h4.elim
    | normal=>
     cases q1
     simp only at h4
     generalize hLL:(aG s1.b).map (fun i=>(i,(none:Option (Nat × Nat))))=L at h4
     split at h4
     ·rename_i as1 caps S1 hdl has hcaps hS1
      simp only [Bool.and_eq_true,Nat.ble_eq] at hdl
      obtain ⟨hdist,hL100⟩:=hdl
      split at h4
      ·rename_i hcp
       rw [cE] at h4
       obtain ⟨k1,k2,k3⟩:=gN L 900 S1 hS1
       refine wp_seq (wp_region ?_)
       show wpOps P _ _ [0,1] a1 Ω1.w
       refine bS (o:=⟨some R.t5,.makeFunc (.func g) #[] R.caps.toArray,ty1,ps1,af1,none⟩) rfl rfl (an (v:=.func (.func g) #[] (R.caps.toArray.map a1.eval)) (w':=Ω1.w) (by simp [execOp,Instr.makeFunc]) ?_)
       have he5:(a1.put (some R.t5) (.func (.func g) #[] (R.caps.toArray.map a1.eval))).eval (.tmp R.t5)=.func (.func g) #[] (R.caps.toArray.map a1.eval):=by
        show (Act.put a1 (some R.t5) _).tmps.getD R.t5 undef=_
        rw [bW h3.size hk5,if_pos rfl]
       refine bS (o:=⟨none,.defer ⟨.value (.tmp R.t5),#[],ts2⟩,ty2,ps2,af2,none⟩) rfl rfl ?_
       have hrun:(execOp (a1.put (some R.t5) (.func (.func g) #[] (R.caps.toArray.map a1.eval))).eval ⟨none,.defer ⟨.value (.tmp R.t5),#[],ts2⟩,ty2,ps2,af2,none⟩).run P Ω1.w=.ok (.defer {target:=.fn (.func g) (R.caps.toArray.map a1.eval),args:=#[]}) Ω1.w:=by
        have he5':=he5
        simp only [List.map_toArray] at he5'
        simp [execOp,resolve,he5',Deferred.ofValue]
       unfold Oper.wp
       rw [hrun]
       have hcv:R.caps.toArray.map a1.eval=(R.caps.map a1.eval).toArray:=by simp
       have hdef0:a1.defers=[]:=h3.defers
       have hvl1:VL Ω1 ((List.range fn.ntmps).map (aI s1.t)) a1.tmps.toList:=by
        have hz:a1.tmps.size=fn.ntmps:=h3.size
        refine ⟨by simp;omega,fun j c v hc hv=>?_⟩
        simp only [List.getElem?_map,Option.map_eq_some_iff] at hc
        obtain ⟨q,hq,rfl⟩:=hc
        have hqj:q=j:=by
         have:=List.getElem?_eq_some_iff.1 hq
         obtain ⟨_,e⟩:=this
         simpa using e.symm
        subst hqj
        have:=h3.tmps q
        rw [Array.getElem?_toList] at hv
        simp only [Array.getD_eq_getD_getElem?,hv,Option.getD_some] at this
        exact this
       have hvc1:VL Ω1 (R.caps.map (opd (aI s1.t))) (R.caps.map a1.eval):=by
        refine ⟨by simp,fun j c v hc hv=>?_⟩
        simp only [List.getElem?_map,Option.map_eq_some_iff] at hc hv
        obtain ⟨x,hx,rfl⟩:=hc
        obtain ⟨y,hy,rfl⟩:=hv
        rw [hx] at hy
        cases hy
        exact aS h3 x
       have hvl:=hvl1.mapVs (jV L Ω1.e) has
       have hvc:=hvc1.mapVs (jV L Ω1.e) hcaps
       have hlent1:∀k i r,aZ L k=some (i,r)→∃o o',s1.abs.B i=some o/\dW L r o=some o'/\aj S1 k=some o':=by
        intro k i r hk
        obtain ⟨h1,h2⟩:=eX hk
        obtain ⟨o,o',q1,q2,q3⟩:=k2 _ i r h2
        rw [show 900+(k - 900)=k by omega] at q3
        exact ⟨o,o',q1,q2,q3⟩
       have hLs:∀q i r,nth L q=some (i,r)→∃o o',s1.abs.B i=some o/\dW L r o=some o':=fun q i r hq=>let ⟨o,o',q1,q2,_⟩:=k2 q i r hq;⟨o,o',q1,q2⟩
       have hslots:∀id o,aj S1 id=some o→b6 ⟨cu L Ω1.e,Ω1.w,Ω1.pub⟩ (fun _ _=>True) id o:=fun id o' ho'=>by
        obtain ⟨q,i,r,o2,e1,e2,e3,e4⟩:=k1 id o' ho'
        subst e1
        exact vc (ca (kG L i 900 q r hdist e2)) (h3.slots i o2 e3) e4
       have hdom1:∀id,aj S1 id=none→cu L Ω1.e id=none:=fun id hid=>by
        unfold cu
        cases hl:aZ L id with
        | none=>rfl
        | some x=>
         obtain ⟨o1,o2,_,_,q3⟩:=hlent1 id x.1 x.2 hl
         rw [hid] at q3
         cases q3
       have hinj1:Inj (cu L Ω1.e):=fun i j c c' b oo hi hj ho1 ho2=>by
        obtain ⟨i1,r1,c1,p1,p2,p3⟩:=iO h3.slots hLs hi
        obtain ⟨i2,r2,c2,p4,p5,p6⟩:=iO h3.slots hLs hj
        have:=h3.inj i1 i2 c1 c2 b oo p2 p5 (p3 b oo ho1) (p6 b oo ho2)
        subst this
        have a1:=cJ hdist p1
        have a2:=cJ hdist p4
        rw [a1] at a2
        simp at a2
        exact a2.1
       have hpin:∀id c,cu L Ω1.e id=some c→b8 id=true:=by
        intro id c hc
        cases hg:aj S1 id with
        | none=>rw [hdom1 id hg] at hc;cases hc
        | some o=>
         have:=k3 (id,o) (bQ _ _ _ hg)
         simp only [b8,Bool.and_eq_true,Nat.ble_eq,Nat.blt_eq]
         simp only at this
         omega
       have hkS:∀k∈aG S1,∃c,cu L Ω1.e k=some c:=by
        intro k hk
        obtain ⟨x,hx,rfl⟩:=List.mem_map.1 hk
        cases hg:aj S1 x.1 with
        | none=>exact absurd (List.mem_map.2 ⟨x,hx,rfl⟩) (iP _ _ hg)
        | some o=>
         have hso:=hslots x.1 o hg
         cases o with
         | box c=>obtain ⟨_,_,e1,_⟩:=hso;exact ⟨_,e1⟩
         | tail τ n=>obtain ⟨_,_,e1,_⟩:=hso;exact ⟨_,e1⟩
         | map κ τ m=>obtain ⟨_,e1,_⟩:=hso;exact ⟨_,e1⟩
         | bld t u l=>obtain ⟨_,_,e1,_⟩:=hso;exact ⟨_,e1⟩
         | tailp τ n x=>obtain ⟨_,_,e1,_⟩:=hso;exact ⟨_,e1⟩
         | grow τ n x=>obtain ⟨_,_,e1,_⟩:=hso;exact ⟨_,e1⟩
       have hlen1:as1.length<=fn.ntmps:=by
        have:=hvl.1
        rw [this,Array.length_toList,h3.size]
        exact Nat.le_refl _
       have hi1:=jw (n:=fn.ntmps) h3.pubok (h3.tabsC hLs) hvl hlen1 hslots hdom1 hinj1 hpin
       have hi2:=hi1.retmp' (T:=aI (cA 0 as1)) (a':={tmps:=a1.tmps,defers:=[{target:=.fn (.func g) (R.caps.toArray.map a1.eval),args:=#[]}]}) (n:=fn.ntmps) (ds:=[{target:=.fn (.func g) (R.caps.toArray.map a1.eval),args:=#[]}])
        (fun i=>by
         have:=hi1.tmps i
         have e0:(a1.tmps.toList.toArray++Array.replicate (fn.ntmps - a1.tmps.toList.toArray.size) undef)=a1.tmps:=by
          have hz:a1.tmps.size=fn.ntmps:=h3.size
          apply Array.ext'
          simp [hz]
         rw [e0] at this
         exact this) h3.size rfl
       have hi3:=hi2.pure (dst:=some R.t5) (val:=.undef) (v:=.func (.func g) #[] (R.caps.toArray.map a1.eval)) (.undef _) (fun d e=>by cases e;exact hk5)
       have hi4:=hi3.weak (s':=St.abs ⟨fH (cA 0 as1) R.t5 .undef,S1⟩) (fun i=>by
        simp only [St.abs,dR,bf]
        by_cases e5:R.t5=i
        ·left;simp [e5]
        ·right;simp [e5]) rfl
       have hact:(({tmps:=a1.tmps,defers:=[{target:=.fn (.func g) (R.caps.toArray.map a1.eval),args:=#[]}]}:Act).put (some R.t5) (.func (.func g) #[] (R.caps.toArray.map a1.eval)))=
         ({(a1.put (some R.t5) (.func (.func g) #[] (R.caps.toArray.map a1.eval))) with defers:={target:=.fn (.func g) (R.caps.toArray.map a1.eval),args:=#[]} ::(a1.put (some R.t5) (.func (.func g) #[] (R.caps.toArray.map a1.eval))).defers}:Act).put none undef:=by
        simp [Act.put,hdef0]
       show Code.wp P R.rest _ (({(a1.put (some R.t5) (.func (.func g) #[] (R.caps.toArray.map a1.eval))) with defers:={target:=.fn (.func g) (R.caps.toArray.map a1.eval),args:=#[]} ::(a1.put (some R.t5) (.func (.func g) #[] (R.caps.toArray.map a1.eval))).defers}:Act).put none undef) Ω1.w
       rw [←hact]
       refine wp_mono (kJ hm hT hS _ ann R.rest _ _ _ ⟨cu L Ω1.e,Ω1.w,Ω1.pub⟩ h4 hdr.2 hi4) ?_
       intro en a2 w2 hq
       obtain ⟨z,s2,Ω2,g1,rfl,g3,g4⟩:=hq
       have hcv2:VL Ω2 caps (R.caps.map a1.eval):=by
        refine ⟨hvc.1,fun j c v hc hv=>?_⟩
        exact V.pinned g3.keep (List.all_eq_true.1 hcp c (List.mem_of_getElem? hc)) (hvc.2 j c v hc hv)
       have hcl':caps.length<=clo.ntmps:=by rw [hvc.1,List.length_map];exact hcl
       have hc6':caps.length<=R.t6:=by rw [hvc.1,List.length_map];exact hc6
       have close:∀(u u':FrameMode) (av:AV) (v:Value),u≠.run→settle u'=.returning→Rcv u av Ω2 v u'→wj C annC clo R caps av s2 (Eh C fn.results.toList L s1 S1 S A s2.t)→
         Leaves P fn a2.tmps (fun en w'=>∃pub' e',match en with
          | .returned v=>(∀b pv u,A.pan=some (b,pv,u)→b=false)/\V ⟨e',w',pub'⟩ A.val v/\After w pub e (aj (bP S A.upd)) w' pub' e'
          | .panicked ch=>∃pv u v,A.pan=some (true,pv,u)/\ch=[{v,recovered:=false}]/\V ⟨e',w',pub'⟩ pv v/\After w pub e (aj (bP S u)) w' pub' e'
          | .outgrown=>False) [{target:=.fn (.func g) (R.caps.toArray.map a1.eval),args:=#[]}] u Ω2.w:=by
        intro u u' av v hu hse hrc hcr
        refine leaves_cons (f:=g) (args:=(R.caps.map a1.eval).toArray) hu (by simp [invoke,eg]) ?_
        refine (yM hm hT hS hRc hg hcb hk2 hres hcl' hc6' g3 hcv2 hrc hcr).mono ?_
        rintro en u2 w3 ⟨rfl,rfl,s3,Ω3,a3,T3,rfl,hfin,h5⟩
        simp only [hse,Leaves]
        obtain ⟨v,r1,pub',e',r2,r3,r4⟩:=Cb hT h3 hdist hS1 hkS g3 h5 hpan hfin
        exact ⟨v,r1,pub',e',r2,r3,r4⟩
       have hds:a2.defers=[{target:=.fn (.func g) (R.caps.toArray.map a1.eval),args:=#[]}]:=g3.defers
       cases z with
       | normal=>cases g1;show Leaves P fn a2.tmps _ a2.defers .returning Ω2.w;rw [hds];exact close .returning .returning .nilif .nilIface (by simp) rfl (.ret Ω2) g4
       | ret=>cases g1;show Leaves P fn a2.tmps _ a2.defers .returning Ω2.w;rw [hds];exact close .returning .returning .nilif .nilIface (by simp) rfl (.ret Ω2) g4
       | exit id=>exact g4.elim
       | pan pv=>
        obtain ⟨v,rfl,hv⟩:=g1
        show Leaves P fn a2.tmps _ a2.defers (.panicking [{v,recovered:=false}]) Ω2.w
        rw [hds]
        exact close _ (.panicking [{v,recovered:=true}]) pv v (by simp) (by simp [settle]) (.pan Ω2 pv v hv) g4
      ·exact h4.elim
     ·exact h4.elim
 ·exact h.elim
end
end Go.AL
end
noncomputable section
namespace Go.AL
variable [Tabs]
mutual
def fineV:AV→Bool
 | .lstp _ _ _=>false
 | .tptr _ _ _=>false
 | .cptr c=>fineV c
 | .agg cs=>fineVs cs
 | .tup cs=>fineVs cs
 | .fn _ cs=>fineVs cs
 | .iface _ a=>fineV a
 | _=>true
def fineVs:List AV→Bool
 | []=>true
 | a ::r=>fineV a && fineVs r
end
def GX:SObj→Bool
 | .box c=>fineV c
 | .tailp _ _ _=>false
 | _=>true
mutual
def strip:AV→AV
 | .lst τ xs _=>.lst τ xs none
 | .agg cs=>.agg (strips cs)
 | .tup cs=>.tup (strips cs)
 | a=>a
def strips:List AV→List AV
 | []=>[]
 | a ::r=>strip a ::strips r
end
theorem jB (τ:Ty) (xs:List (den τ)):ec τ τ xs=some xs:=by simp [ec]
theorem yN (n:SN) (x:SD n):jJ n n x=some x:=by simp [jJ]
theorem yO (n:SN) (x:Option (SD n)):nA n n x=some x:=by simp [nA]
theorem qP (a:AV):rT a a:=by cases a <;> trivial
mutual
theorem LeV_self (G:List Nat):∀a:AV,fineV a=true→LeV G a a
 | .undef,_=>bC (by simp [LeF])
 | .int k n,_=>bC (by simp [LeF])
 | .bool b,_=>bC (by simp [LeF])
 | .str s,_=>bC (by simp [LeF])
 | .lst τ xs o,_=>bC (by simp [LeF,jB])
 | .nils,_=>bC (by simp [LeF])
 | .ptr i o,_=>bC (by simp [LeF])
 | .nilp,_=>bC (by simp [LeF])
 | .pt n x,_=>bC (by simp [LeF,yO])
 | .st n x,_=>bC (by simp [LeF,yN])
 | .row τ xs,_=>bC (by simp [LeF,jB])
 | .arr i n w,_=>bC (by simp [LeF])
 | .aptr i n w o,_=>bC (by simp [LeF])
 | .map i,_=>bC (by simp [LeF])
 | .glst _ _ _,_=>bC (by simp [LeF])
 | .gptr _ _ _ _ _,_=>bC (by simp [LeF])
 | .bptr i,_=>bC (by simp [LeF])
 | .nilif,_=>bC (by simp [LeF])
 | .nilm,_=>bC (by simp [LeF])
 | .cptr c,h=>by simp only [fineV] at h;unfold LeV;exact ⟨qP c,LeV_self G c h⟩
 | .agg cs,h=>by simp only [fineV] at h;unfold LeV;exact LeL_self G cs h
 | .tup cs,h=>by simp only [fineV] at h;unfold LeV;exact LeL_self G cs h
 | .fn f cs,h=>by simp only [fineV] at h;unfold LeV;exact ⟨by simp,LeL_self G cs h⟩
 | .iface t a,h=>by simp only [fineV] at h;unfold LeV;exact ⟨by simp,LeV_self G a h⟩
 | .lstp _ _ _,h=>by cases h
 | .tptr _ _ _,h=>by cases h
theorem LeL_self (G:List Nat):∀l:List AV,fineVs l=true→LeL G l l
 | [],_=>by unfold LeL;trivial
 | a ::r,h=>by
  simp only [fineVs,Bool.and_eq_true] at h
  unfold LeL
  exact ⟨LeV_self G a h.1,LeL_self G r h.2⟩
end
mutual
theorem LeV_strip (G:List Nat):∀a:AV,fineV a=true→LeV G a (strip a)
 | .lst τ xs o,_=>by unfold strip;exact bC (by simp [LeF,jB])
 | .agg cs,h=>by simp only [fineV] at h;unfold strip LeV;exact LeL_strip G cs h
 | .tup cs,h=>by simp only [fineV] at h;unfold strip LeV;exact LeL_strip G cs h
 | .undef,h=>LeV_self G _ h
 | .int k n,h=>LeV_self G _ h
 | .bool b,h=>LeV_self G _ h
 | .str s,h=>LeV_self G _ h
 | .nils,h=>LeV_self G _ h
 | .ptr i o,h=>LeV_self G _ h
 | .nilp,h=>LeV_self G _ h
 | .pt n x,h=>LeV_self G _ h
 | .st n x,h=>LeV_self G _ h
 | .row τ xs,h=>LeV_self G _ h
 | .arr i n w,h=>LeV_self G _ h
 | .aptr i n w o,h=>LeV_self G _ h
 | .map i,h=>LeV_self G _ h
 | .glst _ _ _,h=>LeV_self G _ h
 | .gptr _ _ _ _ _,h=>LeV_self G _ h
 | .bptr i,h=>LeV_self G _ h
 | .nilif,h=>LeV_self G _ h
 | .nilm,h=>LeV_self G _ h
 | .cptr c,h=>LeV_self G _ h
 | .fn f cs,h=>LeV_self G _ h
 | .iface t a,h=>LeV_self G _ h
 | .lstp _ _ _,h=>by cases h
 | .tptr _ _ _,h=>by cases h
theorem LeL_strip (G:List Nat):∀l:List AV,fineVs l=true→LeL G l (strips l)
 | [],_=>by unfold strips LeL;trivial
 | a ::r,h=>by
  simp only [fineVs,Bool.and_eq_true] at h
  unfold strips LeL
  exact ⟨LeV_strip G a h.1,LeL_strip G r h.2⟩
end
theorem wk {G:List Nat} {s:St}:∀(l l':List AV) (k:Nat),LeL G l l'→(∀j,aI s.t (k+j)=l.getD j .undef)→LeT G s (cA k l')
 | [],[],k,_,_=>trivial
 | a ::r,b ::r',k,h,hg=>by
  unfold LeL at h
  refine ⟨?_,wk r r' (k+1) h.2 fun j=>?_⟩
  ·have:=hg 0
   rw [Nat.add_zero] at this
   rw [this]
   exact h.1
  ·have:=hg (j+1)
   rw [show k+1+j=k+(j+1) by omega,this]
   rfl
 | [],_ ::_,_,h,_=>by unfold LeL at h;exact h.elim
 | _ ::_,[],_,h,_=>by unfold LeL at h;exact h.elim
theorem j9 {G:List Nat} {s:St}:∀l:List (Nat × SObj),(∀x∈l,aj s.b x.1=some x.2/\GX x.2=true)→LeB G s l
 | [],_=>trivial
 | (i,.box c) ::r,h=>by
  obtain ⟨h1,h2⟩:=h _ (List.mem_cons_self ..)
  refine ⟨?_,j9 r fun x hx=>h x (List.mem_cons_of_mem _ hx)⟩
  simp only at h1
  rw [h1]
  exact ⟨qP c,LeV_self G c h2⟩
 | (i,.tail τ n) ::r,h=>by
  obtain ⟨h1,h2⟩:=h _ (List.mem_cons_self ..)
  refine ⟨?_,j9 r fun x hx=>h x (List.mem_cons_of_mem _ hx)⟩
  simp only at h1
  rw [h1]
  simp
 | (i,.map κ τ m) ::r,h=>by
  obtain ⟨h1,h2⟩:=h _ (List.mem_cons_self ..)
  refine ⟨?_,j9 r fun x hx=>h x (List.mem_cons_of_mem _ hx)⟩
  simp only at h1
  rw [h1]
  simp [zK]
 | (i,.bld t u l) ::r,h=>by
  obtain ⟨h1,h2⟩:=h _ (List.mem_cons_self ..)
  refine ⟨?_,j9 r fun x hx=>h x (List.mem_cons_of_mem _ hx)⟩
  simp only at h1
  rw [h1]
  simp
 | (i,.tailp τ n x) ::r,h=>by
  obtain ⟨h1,h2⟩:=h _ (List.mem_cons_self ..)
  cases h2
 | (i,.grow τ n xs) ::r,h=>by
  obtain ⟨h1,h2⟩:=h _ (List.mem_cons_self ..)
  refine ⟨?_,j9 r fun x hx=>h x (List.mem_cons_of_mem _ hx)⟩
  simp only at h1
  rw [h1]
  simp [jB]
end Go.AL
end
noncomputable section
namespace Go.AL
def nZ (S:List (Nat × SObj)) (x:Nat × SObj):Bool:=match aj S x.1 with | some o=>eqO o x.2 | none=>false
def Ej:List AV→AV
 | [a]=>a
 | l=>.tup l
def Ek (s:St) (l:List AV):List (Nat × SObj):=
 s.b.filter fun x=>b8 x.1 || (iJ (aj s.b) 64 (ids.idsL l++(aG s.b).filter b8) []).contains x.1
def HM:Bool→List AV→List AV
 | true,l=>l
 | false,l=>strips l
def El (tok:Bool) (S:List (Nat × SObj)) (s:St) (l:List AV):Option Ans:=
 evVs (HM tok l) fun l'=>evB (Ek s l') fun kept=>
  match fineVs l && (kept.all (fun x=>GX x.2)) && aX (aG s.b) && (aG S).all (fun i=>(aG kept).contains i) &&
    (bZ ((aG s.b).filter fun i=>!(aG kept).contains i) ⟨cA 0 l',kept⟩ && ((aG s.b).filter fun i=>!(aG kept).contains i).all (fun i=>!b8 i)) with
  | true=>some ⟨none,none,Ej l',kept.filter fun x=>!nZ S x⟩
  | false=>none
theorem oM:∀{l:List (Nat × SObj)},aX (aG l)=true→∀{i:Nat} {o:SObj},(i,o)∈l→aj l i=some o
 | [],_,_,_,h=>by cases h
 | (j,u) ::r,hd,i,o,h=>by
  simp only [aG,List.map_cons,aX,Bool.and_eq_true,Bool.not_eq_true',List.contains_eq_mem,decide_eq_false_iff_not] at hd
  rcases List.mem_cons.1 h with e | e
  ·cases e;simp [aJ,aF]
  ·have hne:¬j=i:=fun q=>hd.1 (List.mem_map.2 ⟨_,e,q.symm⟩)
   simp only [aJ,aF,beq_iff_eq,hne,if_false]
   exact oM hd.2 e
theorem gA (p:Nat × SObj→Bool):∀{l:List (Nat × SObj)},aX (aG l)=true→aX (aG (l.filter p))=true
 | [],_=>rfl
 | x ::r,hd=>by
  simp only [aG,List.map_cons,aX,Bool.and_eq_true,Bool.not_eq_true',List.contains_eq_mem,decide_eq_false_iff_not] at hd
  have ih:=gA p hd.2
  rw [List.filter_cons]
  split
  ·simp only [aG,List.map_cons,aX,Bool.and_eq_true,Bool.not_eq_true',List.contains_eq_mem,decide_eq_false_iff_not]
   refine ⟨fun h=>hd.1 ?_,ih⟩
   obtain ⟨y,hy,e⟩:=List.mem_map.1 h
   exact List.mem_map.2 ⟨y,(List.mem_filter.1 hy).1,e⟩
  ·exact ih
variable [Tabs]
theorem Em {l:List (Nat × SObj)} {i:Nat} (h:aj l i=none):i∉aG l:=iP l i h
theorem qQ {l:List (Nat × SObj)} {i:Nat} (h:i∉aG l):aj l i=none:=by
 cases hb:aj l i with
 | none=>rfl
 | some o=>exact absurd (List.mem_map.2 ⟨(i,o),bQ l i o hb,rfl⟩) h
theorem Ge {S kept:List (Nat × SObj)} (hd:aX (aG kept)=true) (hS:∀i∈aG S,i∈aG kept):aj (bP S (kept.filter fun x=>!nZ S x))=aj kept:=by
 funext i
 have hdf:=gA (fun x=>!nZ S x) hd
 rw [nu _ S i hdf]
 cases hk:aj kept i with
 | some o=>
  have hm:=bQ kept i o hk
  cases hs:nZ S (i,o) with
  | false=>
   have:(i,o)∈kept.filter fun x=>!nZ S x:=List.mem_filter.2 ⟨hm,by rw [hs];rfl⟩
   rw [oM hdf this]
   rfl
  | true=>
   have hn:aj (kept.filter fun x=>!nZ S x) i=none:=by
    cases hb:aj (kept.filter fun x=>!nZ S x) i with
    | none=>rfl
    | some o'=>
     have h1:=List.mem_filter.1 (bQ _ i o' hb)
     have h2:=oM hd h1.1
     rw [hk] at h2
     cases h2
     have h3:=h1.2
     rw [hs] at h3
     cases h3
   rw [hn]
   unfold nZ at hs
   split at hs
   ·rename_i o' ho'
    simp only at ho' hs
    rw [ho',CZ hs]
    rfl
   ·cases hs
 | none=>
  have h1:i∉aG kept:=Em hk
  rw [qQ (l:=S) fun h=>h1 (hS i h),qQ fun h=>h1 ?_]
  ·rfl
  ·obtain ⟨y,hy,e⟩:=List.mem_map.1 h
   exact List.mem_map.2 ⟨y,(List.mem_filter.1 hy).1,e⟩
theorem qR {G:List Nat}:∀{l m:List AV},LeL G l m→l.length=m.length
 | [],[],_=>rfl
 | _ ::_,_ ::_,h=>by unfold LeL at h;rw [List.length_cons,List.length_cons,qR h.2]
 | [],_ ::_,h=>by unfold LeL at h;exact h.elim
 | _ ::_,[],h=>by unfold LeL at h;exact h.elim
theorem Cc {tok:Bool} {S:List (Nat × SObj)} {s:St} {l:List AV} {A:Ans} (h:El tok S s l=some A) :
  A.ob=none/\A.pan=none/\∃l' kept,A.val=Ej l'/\l'.length=l.length/\LeS ⟨cA 0 l,s.b⟩ ⟨cA 0 l',kept⟩/\aj (bP S A.upd)=aj kept:=by
 unfold El at h
 rw [evVs_eq,ug] at h
 split at h
 ·rename_i hc
  cases h
  simp only [Bool.and_eq_true,List.all_eq_true] at hc
  obtain ⟨⟨⟨⟨h1,h2⟩,h3⟩,h4⟩,h5,h6⟩:=hc
  refine ⟨rfl,rfl,HM tok l,Ek s (HM tok l),rfl,?_,⟨?_,?_,?_⟩,?_⟩
  ·cases tok with
   | true=>rfl
   | false=>exact (qR (LeL_strip [] l h1)).symm
  ·rw [if_pos]
   ·trivial
   ·rw [Bool.and_eq_true,List.all_eq_true]
    exact ⟨h5,h6⟩
  ·refine wk l _ 0 ?_ fun j=>?_
   ·cases tok with
    | true=>exact LeL_self _ l h1
    | false=>exact LeL_strip _ l h1
   ·show aI (cA 0 l) (0+j)=_
    rw [fP]
    simp
  ·refine j9 _ fun x hx=>⟨?_,h2 x hx⟩
   exact oM h3 (List.mem_filter.1 hx).1
  ·refine Ge (gA _ h3) fun i hi=>?_
   have:=h4 i hi
   rwa [List.contains_eq_mem,decide_eq_true_eq] at this
 ·cases h
structure FB where
 body:Code
 n:Nat
 res:List ResultVar
 keep:Nat
 pubs:List (Nat × List Nat)
 pend:Nat→Bool
 rows:Nat→Bool
 same:Nat→Bool
 tok:Bool
 ps:List (Option Ty)
def En:Option Ty→AV→AV
 | some (.st n),a=>(match arg (.st n) a with | some x=>.st n x | none=>a)
 | _,a=>a
def AD:List (Option Ty)→List AV→List AV
 | p ::ps,a ::r=>En p a ::AD ps r
 | _,l=>l
def HN (C:Cfg) (N:Nat) (x:FB) (args:List AV) (S:List (Nat × SObj)):Option Ans:=
 evVs (AD x.ps args) fun args=>evB S fun S=>
  match kY args x.n && (aG S).all b8 with
  | false=>none
  | true=>
   match j8 C x.keep x.pubs N x.body ⟨cA 0 args,S⟩ with
   | some (.normal,s)=>(match jF C.tbl s x.res with | some l=>El x.tok S s l | none=>none)
   | some (.ret,s)=>(match jF C.tbl s x.res with | some l=>El x.tok S s l | none=>none)
   | _=>none
variable {P:Program} {C:Cfg}
theorem Eo (p:Option Ty) (a:AV):Rd a (En p a):=by
 unfold En
 split
 ·split
  ·rename_i x hx;exact Rd.arg hx
  ·exact Rd.refl a
 ·exact Rd.refl a
theorem wm:∀(ps:List (Option Ty)) (l:List AV),RdL l (AD ps l)
 | [],l=>RdL.refl l
 | p ::ps,[]=>.nil
 | p ::ps,a ::r=>.cons (Eo p a) (wm ps r)
theorem runF_meets (hm:P.follows .mixedOrders=true) (hT:aO P C.tbl) (hS:bB P C.spec) {N:Nat} {x:FB} {f:Nat} {fn:Func} (hf:P.funcs[f]?=some fn) (hb:fn.body=some x.body) (hn:fn.ntmps=x.n) (hr:fn.results.toList=x.res)
  (hd:bk x.n x.body=true) {args:List AV} {S:List (Nat × SObj)} {A:Ans} (h:HN C N x args S=some A):aD P f args S A:=by
 refine aD.args (wm x.ps args) ?_
 intro w pub e vs hp ht hv hs hdom hinj
 unfold HN at h
 rw [evVs_eq,ug] at h
 split at h
 ·cases h
 ·rename_i hck
  simp only [Bool.and_eq_true,List.all_eq_true] at hck
  obtain ⟨hck2,hck3⟩:=hck
  have hlen:=dF _ _ hck2
  have hlent:∀id c,e id=some c→b8 id=true:=by
   intro id c hc
   cases hg:aj S id with
   | none=>rw [hdom id hg] at hc;cases hc
   | some o=>exact hck3 id (List.mem_map.2 ⟨(id,o),bQ _ _ _ hg,rfl⟩)
  have hrun:∃z s',j8 C x.keep x.pubs N x.body ⟨cA 0 (AD x.ps args),S⟩=some (z,s')/\(match jF C.tbl s' x.res with | some l=>El x.tok S s' l | none=>none)=some A/\(z=.normal∨z=.ret):=by
   split at h
   ·rename_i s' hz;exact ⟨_,s',hz,h,.inl rfl⟩
   ·rename_i s' hz;exact ⟨_,s',hz,h,.inr rfl⟩
   ·cases h
  obtain ⟨z,s',hz,he,hzz⟩:=hrun
  refine calls_of_wp hf hb ?_
  have hh:=jw (n:=fn.ntmps) hp ht hv (by rw [hn];exact hlen) hs hdom hinj hlent
  rw [←hn] at hd
  refine wp_mono (yL (F:=⟨w,pub,fn.ntmps,e,hlent,[],ht⟩) hm hT hS _ _ N x.body _ z s' _ _ hz hd hh) ?_
  intro en a' w' hq
  obtain ⟨z2,s2,Ω',h1,h2,h3,h4,h5⟩:=hq
  subst h2 h4 h5
  have hmap:∀us,(fn.results.toList.mapM (n9 a'.tmps)).run P Ω'.w=.ok us Ω'.w→
    (results fn a'.tmps).run P Ω'.w=.ok (if h:us.toArray.size=1 then us.toArray[0] else .tuple us.toArray) Ω'.w:=by
   intro us hus
   rw [ly,←Array.toArray_toList (xs:=fn.results),List.mapM_toArray]
   simp only [Sem.run_bind,Sem.run_map,hus,Result.andThen_ok,Sem.run_pure]
  have main:a'.defers=[]/\∃v,(results fn a'.tmps).run P Ω'.w=.ok v Ω'.w/\∃pub' e',(∀b pv u,A.pan=some (b,pv,u)→b=false)/\V ⟨e',Ω'.w,pub'⟩ A.val v/\After w pub e (aj (bP S A.upd)) Ω'.w pub' e':=by
   refine ⟨h3.defers,?_⟩
   split at he
   ·rename_i l hres
    rw [←hr] at hres
    obtain ⟨a1,a2,l',kept,a3,a4,a5,a6⟩:=Cc he
    obtain ⟨us,k1,k2⟩:=eZ hT h3 _ _ hres
    obtain ⟨Ω2,e2,hh2⟩:=dr (s:=⟨cA 0 l,s2.b⟩) (h3.retmp k2) a5
    rw [a3,a6]
    refine ⟨_,hmap us k1,Ω2.pub,Ω2.e,fun b pv u q=>(by rw [a2] at q;cases q),?_,by rw [←e2];exact gY hh2⟩
    have hval:∀(j:Nat) c v,l'[j]?=some c→us[j]?=some v→V ⟨Ω2.e,Ω'.w,Ω2.pub⟩ c v:=fun j c v hc hv=>by
     have:=hh2.tmps j
     simp only [St.abs,fP,Nat.zero_le,if_true,Nat.sub_zero,List.getD_eq_getElem?_getD,hc,Option.getD_some] at this
     have e3:(us.toArray++Array.replicate 0 undef).getD j undef=v:=by
      simp [Array.getD_eq_getD_getElem?,hv]
     rw [e3] at this
     rw [←e2]
     exact this
    have hlu:l'.length=us.length:=a4.trans k2.1
    by_cases h1':us.toArray.size=1
    ·rw [dif_pos h1']
     obtain ⟨u,rfl⟩:=iS (l:=us) (by simpa using h1')
     obtain ⟨c,rfl⟩:=iS (l:=l') (by rw [hlu];rfl)
     exact hval 0 c u rfl rfl
    ·rw [dif_neg h1']
     have:Ej l'=.tup l':=by
      match l',hlu with
      | [],_=>rfl
      | [c],q=>exact absurd (by simpa using q.symm) h1'
      | _ ::_ ::_,_=>rfl
     rw [this]
     exact .tup l' us hlu hval
   ·cases he
  rcases hzz with rfl | rfl
  ·cases h1;exact main
  ·cases h1;exact main
def AE:List (Nat × FB)→Nat→Option FB
 | [],_=>none
 | (j,x) ::r,f=>if Nat.beq j f=true then some x else AE r f
def az (tbl:List (Nat × TR)) (fn:Func) (keep:Nat) (pubs:List (Nat × List Nat)) (pend rows same:Nat→Bool) (tok:Bool):FB:=
 ⟨fn.body.getD .skip,fn.ntmps,fn.results.toList,keep,pubs,pend,rows,same,tok,fn.params.toList.map fun t=>(aB tbl t).bind (·.ty)⟩
def fbok (fn:Func):Bool:=match fn.body with | none=>false | some c=>bk fn.ntmps c && !(fn.name == "runtime.NumGoroutine")
def ah (P:Program) (tab:List (Nat × FB)):Prop:=∀f x,AE tab f=some x→
 ∃fn,P.funcs[f]?=some fn/\fn.body=some x.body/\fn.ntmps=x.n/\fn.results.toList=x.res/\bk x.n x.body=true/\(fn.name == "runtime.NumGoroutine")=false
theorem ah.nil:ah P []:=fun f x h=>by cases h
theorem ah.cons {tbl:List (Nat × TR)} {f:Nat} {fn:Func} {keep:Nat} {pubs:List (Nat × List Nat)} {pend rows same:Nat→Bool} {tok:Bool} {tab:List (Nat × FB)} (hf:P.funcs[f]?=some fn) (hc:fbok fn=true) (ht:ah P tab) :
  ah P ((f,az tbl fn keep pubs pend rows same tok) ::tab):=by
 intro g x h
 unfold AE at h
 split at h
 ·rename_i hb
  obtain rfl:=Nat.eq_of_beq_eq_true hb
  cases h
  unfold fbok at hc
  split at hc
  ·cases hc
  ·rename_i c hb'
   simp only [Bool.and_eq_true,Bool.not_eq_true'] at hc
   exact ⟨fn,hf,by simp [az,hb'],rfl,rfl,by simpa [az,hb'] using hc.1,hc.2⟩
 ·exact ht g x h
def wq (tbl:List (Nat × TR)) (tab:List (Nat × FB)) (keeps:Nat→Bool) (lends:Nat→List (Option Nat)) (N:Nat) (base:Nat→List AV→List (Nat × SObj)→Option Ans) :
  Nat→Nat→List AV→List (Nat × SObj)→Option Ans
 | 0,f,us,S=>base f us S
 | n+1,f,us,S=>
  match base f us S with
  | some A=>some A
  | none=>
  match AE tab f with
  | none=>none
  | some x=>HN ⟨tbl,wq tbl tab keeps lends N base n,keeps,lends,x.pend,x.rows,x.same⟩ N x us S
theorem AF {tbl:List (Nat × TR)} {tab:List (Nat × FB)} {keeps:Nat→Bool} {lends:Nat→List (Option Nat)} {N:Nat} {base:Nat→List AV→List (Nat × SObj)→Option Ans}
  (hm:P.follows .mixedOrders=true) (hT:aO P tbl) (hB:bB P base) (ht:ah P tab):∀n:Nat,bB P (wq tbl tab keeps lends N base n)
 | 0=>hB
 | n+1=>by
  intro f args S A h ho hl
  unfold wq at h
  split at h
  ·rename_i A' hb
   cases h
   exact hB f args S A hb ho hl
  split at h
  ·cases h
  ·rename_i x hx
   obtain ⟨fn,h1,h2,h3,h4,h5,h6⟩:=ht f x hx
   exact ⟨⟨fn,h1,by rw [h2];rfl,h6⟩,runF_meets hm hT (AF hm hT hB ht n) h1 h2 h3 h4 h5 h⟩
theorem kR {tbl:List (Nat × TR)} {tab:List (Nat × FB)} {keeps:Nat→Bool} {lends:Nat→List (Option Nat)} {N n f:Nat} {base:Nat→List AV→List (Nat × SObj)→Option Ans} {args:List AV} {v:AV} {u:List (Nat × SObj)}
  (hm:P.follows .mixedOrders=true) (hT:aO P tbl) (hB:bB P base) (ht:ah P tab) (h:wq tbl tab keeps lends N base n f args []=some ⟨none,none,v,u⟩):aD P f args [] ⟨none,none,v,u⟩:=
 (AF hm hT hB ht n f args [] _ h (fun _ q=>by cases q) rfl).2
end Go.AL
end
noncomputable section
namespace Go.AL
variable [Tabs] {P:Program}
def q1 (τ:Ty) (b:den τ→Bool) (F:den τ→AV):Pat
 | [a],[]=>(match arg τ a with | some x=>(match b x with | true=>some (.ret (F x)) | false=>none) | none=>none)
 | _,_=>none
theorem Ep {f:Nat} {τ:Ty} {b:den τ→Bool} {F:den τ→AV} {O:den τ→Prop} (h:ag P f (p1 τ fun x=>⟨some (O x),none,F x,[]⟩)) (hb:∀x,b x=true→O x):ag P f (q1 τ b F):=by
 intro args S A hA ho hl
 unfold q1 at hA
 split at hA
 ·rename_i a
  split at hA
  ·rename_i x hx
   split at hA
   ·rename_i ht
    cases hA
    have k:=h [a] [] ⟨some (O x),none,F x,[]⟩ (by simp [p1,hx]) (fun q hq=>by cases hq;exact hb x ht) hl
    exact ⟨k.1,k.2⟩
   ·cases hA
  ·cases hA
 ·cases hA
def q2 (τ σ:Ty) (b:den τ→den σ→Bool) (F:den τ→den σ→AV):Pat
 | [a,c],[]=>(match arg τ a,arg σ c with | some x,some y=>(match b x y with | true=>some (.ret (F x y)) | false=>none) | _,_=>none)
 | _,_=>none
theorem sB {f:Nat} {τ σ:Ty} {b:den τ→den σ→Bool} {F:den τ→den σ→AV} {O:den τ→den σ→Prop} (h:ag P f (p2 τ σ fun x y=>⟨some (O x y),none,F x y,[]⟩)) (hb:∀x y,b x y=true→O x y):ag P f (q2 τ σ b F):=by
 intro args S A hA ho hl
 unfold q2 at hA
 split at hA
 ·rename_i a c
  split at hA
  ·rename_i x y hx hy
   split at hA
   ·rename_i ht
    cases hA
    have k:=h [a,c] [] ⟨some (O x y),none,F x y,[]⟩ (by simp [p2,hx,hy]) (fun q hq=>by cases hq;exact hb x y ht) hl
    exact ⟨k.1,k.2⟩
   ·cases hA
  ·cases hA
 ·cases hA
def AG (as0:List AV) (v:AV):Pat:=fun args S=>match eqVs as0 args,S with | true,[]=>some (.ret v) | _,_=>none
theorem AH {f:Nat} {as0:List AV} {v:AV} (he:ax P f) (h:aD P f as0 [] (.ret v)):ag P f (AG as0 v):=by
 intro args S A hA ho hl
 unfold AG at hA
 split at hA
 ·rename_i heq
  cases hA
  rw [←eqVs_ok _ _ heq]
  exact ⟨he,h⟩
 ·cases hA
def t1 (τ:Ty) (b:den τ→Bool):List AV→List (Nat × SObj)→Bool
 | [a],_=>(match arg τ a with | some x=>b x | none=>false)
 | _,_=>false
end Go.AL
end
section
open Go Go.AL Go.Proofs
namespace Go.AL.Seat
variable [Tabs]
def r1:TR:=⟨.other,1,8,[.undef],none⟩
def r2:TR:=⟨.int .i64,1,8,[.int .i64 0],some (.int .i64)⟩
def r5:TR:=⟨.int .u8,1,1,[.int .u8 0],some (.int .u8)⟩
def r7:TR:=⟨.strct true [(0,2),(1,3),(2,4),(3,6)],4,24,[.int .i64 0,.int .i64 0,.bool false,.int .u8 0],none⟩
def r9:TR:=⟨.str,1,16,[.str []],some .str⟩
def r12:TR:=⟨.int .u64,1,8,[.int .u64 0],some (.int .u64)⟩
def r13:TR:=⟨.strct false [(0,9),(1,12)],2,24,[.str [],.int .u64 0],none⟩
def r18:TR:=⟨.strct false [(0,17)],1,8,[.nilp],none⟩
def r20:TR:=⟨.iface,1,16,[.nilif],none⟩
def r21:TR:=⟨.int .i32,1,4,[.int .i32 0],some (.int .i32)⟩
def r67:TR:=⟨.strct false [(0,61)],1,24,[.nils],none⟩
def r70:TR:=⟨.strct false [(0,68),(1,69),(2,66)],3,56,[.nils,.nils,.nilp],none⟩
def r87:TR:=⟨.strct true [(0,9),(1,3),(2,4)],3,32,[.str [],.int .i64 0,.bool false],none⟩
def r97:TR:=⟨.strct false [(0,31),(1,96)],2,48,[.nils,.nils],none⟩
def r126:TR:=⟨.strct false [(0,125),(1,122)],2,32,[.nilp,.nils],none⟩
def Gf:TR:=⟨.strct true [(0,9),(1,3)],2,24,[.str [],.int .i64 0],none⟩
def Gg:TR:=⟨.strct false [(0,154),(2,102),(3,55)],5,64,[.str [],.int .i64 0,.nils,.int .i64 0,.int .i64 0],none⟩
def Cd:TR:=⟨.strct true [(0,3),(1,3),(2,3),(3,3)],4,32,[.int .i64 0,.int .i64 0,.int .i64 0,.int .i64 0],none⟩
def r249:TR:=⟨.strct true [(0,5),(1,5)],2,2,[.int .u8 0,.int .u8 0],none⟩
def Ce:TR:=⟨.strct false [],0,0,[],none⟩
def r285:TR:=⟨.strct false [(0,9),(1,9),(2,129)],3,48,[.str [],.str [],.nilif],none⟩
def r299:TR:=⟨.strct true [(0,9)],1,16,[.str []],none⟩
def r313:TR:=⟨.strct false [(0,17),(1,17),(2,17),(3,9)],4,40,[.nilp,.nilp,.nilp,.str []],none⟩
def r323:TR:=⟨.strct false [(0,12),(1,12),(2,280),(3,318),(4,5),(5,5),(6,319),(7,320),(8,176),(9,321),(10,322)],11,48,[.int .u64 0,.int .u64 0,.int .u32 0,.int .u8 0,.int .u8 0,.int .u8 0,.int .u8 0,.undef,.nilp,.int .i32 0,.int .i32 0],none⟩
def tbl:List (Nat × TR):=[(1,r1),
 (2,r2),
 (3,r2),
 (4,⟨.bool,1,1,[.bool false],some .bool⟩),
 (5,r5),
 (6,r5),
 (7,r7),
 (8,r7),
 (9,r9),
 (10,r9),
 (11,r9),
 (12,r12),
 (13,r13),
 (14,r13),
 (15,⟨.ptr 314,1,8,[.nilp],none⟩),
 (16,⟨.ptr 317,1,8,[.nilp],none⟩),
 (17,⟨.ptr 324,1,8,[.nilp],none⟩),
 (18,r18),
 (19,r18),
 (20,r20),
 (21,r21),
 (22,⟨.slice 9,1,24,[.nils],some (.lst .str)⟩),
 (23,⟨.slice 49,1,24,[.nils],some (.lst (.st .shape))⟩),
 (24,⟨.slice 26,1,24,[.nils],some (.lst (.st .term))⟩),
 (25,⟨.strct false [(0,3),(1,9),(2,9),(3,3),(4,22),(5,22),(6,23),(7,24),(8,3)],9,152,[.int .i64 0,.str [],.str [],.int .i64 0,.nils,.nils,.nils,.nils,.int .i64 0],none⟩),
 (26,⟨.strct false [(0,3),(1,9),(2,9),(3,3),(4,22),(5,22),(6,23),(7,24),(8,3)],9,152,[.int .i64 0,.str [],.str [],.int .i64 0,.nils,.nils,.nils,.nils,.int .i64 0],some (.st .term)⟩),
 (27,⟨.slice 51,1,24,[.nils],some (.lst (.st .bind))⟩),
 (28,r1),
 (29,r1),
 (30,r1),
 (31,⟨.slice 63,1,24,[.nils],some (.lst (.st .chunk))⟩),
 (32,r2),
 (34,r1),
 (36,r1),
 (37,r1),
 (38,r1),
 (39,r1),
 (41,r1),
 (43,r1),
 (44,r1),
 (45,r1),
 (46,r1),
 (47,r1),
 (48,⟨.strct false [(0,3),(1,9),(2,9),(3,22),(4,23)],5,88,[.int .i64 0,.str [],.str [],.nils,.nils],none⟩),
 (49,⟨.strct false [(0,3),(1,9),(2,9),(3,22),(4,23)],5,88,[.int .i64 0,.str [],.str [],.nils,.nils],some (.st .shape)⟩),
 (50,⟨.strct false [(0,9),(1,9),(2,49)],7,120,[.str [],.str [],.int .i64 0,.str [],.str [],.nils,.nils],none⟩),
 (51,⟨.strct false [(0,9),(1,9),(2,49)],7,120,[.str [],.str [],.int .i64 0,.str [],.str [],.nils,.nils],some (.st .bind)⟩),
 (52,r1),
 (53,r1),
 (54,⟨.strct true [(0,32),(1,3)],2,16,[.int .i64 0,.int .i64 0],none⟩),
 (55,⟨.strct true [(0,32),(1,3)],2,16,[.int .i64 0,.int .i64 0],some (.st .fault)⟩),
 (57,r1),
 (58,⟨.slice 3,1,24,[.nils],some (.lst (.int .i64))⟩),
 (59,⟨.strct false [(0,3),(1,3),(2,9),(3,22),(4,58),(5,3)],6,88,[.int .i64 0,.int .i64 0,.str [],.nils,.nils,.int .i64 0],none⟩),
 (60,⟨.strct false [(0,3),(1,3),(2,9),(3,22),(4,58),(5,3)],6,88,[.int .i64 0,.int .i64 0,.str [],.nils,.nils,.int .i64 0],some (.st .op)⟩),
 (61,⟨.slice 60,1,24,[.nils],some (.lst (.st .op))⟩),
 (62,⟨.strct false [(0,3),(1,61)],2,32,[.int .i64 0,.nils],none⟩),
 (63,⟨.strct false [(0,3),(1,61)],2,32,[.int .i64 0,.nils],some (.st .chunk)⟩),
 (64,r1),
 (65,⟨.ptr 71,1,8,[.nilp],none⟩),
 (66,⟨.ptr 31,1,8,[.nilp],none⟩),
 (67,r67),
 (68,r67),
 (69,⟨.slice 73,1,24,[.nils],some (.lst (.st .nm))⟩),
 (70,r70),
 (71,r70),
 (72,⟨.strct true [(0,9),(1,9)],2,32,[.str [],.str []],none⟩),
 (73,⟨.strct true [(0,9),(1,9)],2,32,[.str [],.str []],some (.st .nm)⟩),
 (74,r1),
 (75,⟨.ptr 26,1,8,[.nilp],none⟩),
 (76,r1),
 (77,r1),
 (78,r1),
 (79,r1),
 (80,r12),
 (81,r1),
 (82,r1),
 (83,r1),
 (84,r1),
 (85,r1),
 (86,⟨.ptr 88,1,8,[.nilp],none⟩),
 (87,r87),
 (88,r87),
 (89,r1),
 (90,r1),
 (92,r1),
 (94,r1),
 (95,⟨.ptr 98,1,8,[.nilp],none⟩),
 (96,⟨.slice 100,1,24,[.nils],some (.lst (.st .stt))⟩),
 (97,r97),
 (98,r97),
 (99,⟨.strct true [(0,3),(1,3)],2,16,[.int .i64 0,.int .i64 0],none⟩),
 (100,⟨.strct true [(0,3),(1,3)],2,16,[.int .i64 0,.int .i64 0],some (.st .stt)⟩),
 (101,r1),
 (102,⟨.slice 162,1,24,[.nils],some (.lst (.st .token))⟩),
 (104,r1),
 (106,r1),
 (107,r1),
 (109,r1),
 (110,r1),
 (111,r1),
 (112,r1),
 (113,r1),
 (114,r1),
 (115,r1),
 (117,r1),
 (118,r1),
 (119,r1),
 (120,r1),
 (121,r1),
 (122,⟨.slice 5,1,24,[.nils],some (.lst (.int .u8))⟩),
 (123,r1),
 (124,r12),
 (125,⟨.ptr 127,1,8,[.nilp],none⟩),
 (126,r126),
 (127,r126),
 (128,r20),
 (129,r20),
 (131,r1),
 (132,r1),
 (133,⟨.slice 135,1,24,[.nils],some (.lst (.st .rstt))⟩),
 (134,⟨.strct true [(0,4),(1,3),(2,3)],3,24,[.bool false,.int .i64 0,.int .i64 0],none⟩),
 (135,⟨.strct true [(0,4),(1,3),(2,3)],3,24,[.bool false,.int .i64 0,.int .i64 0],some (.st .rstt)⟩),
 (136,r1),
 (138,r1),
 (140,r1),
 (142,r1),
 (144,r1),
 (146,r1),
 (148,r1),
 (149,r1),
 (150,r1),
 (151,r1),
 (152,⟨.ptr 156,1,8,[.nilp],none⟩),
 (153,Gf),
 (154,Gf),
 (155,Gg),
 (156,Gg),
 (157,r1),
 (158,r1),
 (159,r1),
 (160,r1),
 (161,⟨.strct true [(0,3),(1,9),(2,3)],3,32,[.int .i64 0,.str [],.int .i64 0],none⟩),
 (162,⟨.strct true [(0,3),(1,9),(2,3)],3,32,[.int .i64 0,.str [],.int .i64 0],some (.st .token)⟩),
 (163,⟨.ptr 168,1,8,[.nilp],none⟩),
 (164,r1),
 (165,⟨.strct false [(0,102),(1,3),(2,55)],4,48,[.nils,.int .i64 0,.int .i64 0,.int .i64 0],none⟩),
 (166,⟨.strct false [(0,102),(1,3),(2,55)],4,48,[.nils,.int .i64 0,.int .i64 0,.int .i64 0],some (.st .par)⟩),
 (167,⟨.strct false [(0,166)],4,48,[.nils,.int .i64 0,.int .i64 0,.int .i64 0],none⟩),
 (168,⟨.strct false [(0,166)],4,48,[.nils,.int .i64 0,.int .i64 0,.int .i64 0],some (.st .par)⟩),
 (169,r1),
 (170,r1),
 (171,r1),
 (172,r1),
 (173,⟨.ptr 68,1,8,[.nilp],none⟩),
 (174,r1),
 (175,r1),
 (176,⟨.ptr 5,1,8,[.nilp],none⟩),
 (178,r1),
 (179,r1),
 (180,r1),
 (181,r1),
 (182,⟨.ptr 154,1,8,[.nilp],none⟩),
 (184,r1),
 (185,r1),
 (186,r1),
 (187,r1),
 (188,⟨.strct true [(0,3),(1,3),(2,3),(3,9)],4,40,[.int .i64 0,.int .i64 0,.int .i64 0,.str []],none⟩),
 (189,⟨.strct true [(0,3),(1,3),(2,3),(3,9)],4,40,[.int .i64 0,.int .i64 0,.int .i64 0,.str []],some (.st .version)⟩),
 (191,r1),
 (193,r1),
 (194,⟨.ptr 166,1,8,[.nilp],none⟩),
 (195,r1),
 (196,r1),
 (197,r1),
 (198,r1),
 (199,Cd),
 (200,Cd),
 (201,r1),
 (202,r1),
 (203,r1),
 (204,r1),
 (205,r1),
 (206,r1),
 (207,r1),
 (209,r1),
 (210,r1),
 (211,r1),
 (212,r1),
 (213,r1),
 (214,r1),
 (216,r1),
 (217,r1),
 (221,r1),
 (222,r1),
 (223,⟨.ptr 219,1,8,[.nilp],none⟩),
 (225,r1),
 (226,r1),
 (227,⟨.arr 3 3,3,24,[.int .i64 0,.int .i64 0,.int .i64 0],none⟩),
 (228,r1),
 (229,r1),
 (230,r1),
 (231,r1),
 (232,r1),
 (233,r1),
 (234,r1),
 (235,r1),
 (236,r1),
 (237,r1),
 (238,r1),
 (239,r1),
 (240,r1),
 (241,r1),
 (242,r1),
 (243,r1),
 (244,r1),
 (245,r1),
 (246,r1),
 (247,r1),
 (249,r249),
 (250,r249),
 (252,r1),
 (253,r1),
 (254,r1),
 (255,r1),
 (256,r1),
 (257,r1),
 (258,r1),
 (259,r1),
 (260,r1),
 (261,r2),
 (263,r1),
 (264,⟨.ptr 286,1,8,[.nilp],none⟩),
 (265,r1),
 (266,r1),
 (267,Ce),
 (268,Ce),
 (270,r1),
 (271,r1),
 (272,r2),
 (274,r1),
 (275,r1),
 (276,r1),
 (278,r1),
 (279,r1),
 (280,⟨.int .u32,1,4,[.int .u32 0],some (.int .u32)⟩),
 (281,r1),
 (282,r1),
 (284,r1),
 (285,r285),
 (286,r285),
 (287,r1),
 (288,r1),
 (289,r12),
 (290,r1),
 (291,r1),
 (292,r1),
 (293,⟨.ptr 3,1,8,[.nilp],none⟩),
 (294,r1),
 (296,r1),
 (297,r1),
 (298,⟨.ptr 300,1,8,[.nilp],none⟩),
 (299,r299),
 (300,r299),
 (301,⟨.ptr 289,1,8,[.nilp],none⟩),
 (302,r1),
 (303,r1),
 (305,r1),
 (307,r1),
 (308,r1),
 (313,r313),
 (314,r313),
 (318,r5),
 (319,r5),
 (320,r1),
 (321,r21),
 (322,r21),
 (323,r323),
 (324,r323)]
theorem tk {t:Nat} {r:TR} (h1:(Tryz.prog.info? t).map (fun i=>(i.size,i.bytes,i.zero.map fun z=>z.cells.toList.map bJ))=some (r.size,r.bytes,some r.zero):=by kernel_rfl)
  (h2:(Tryz.prog.underlying t).map (aC Tryz.prog r.ti)=some true:=by kernel_rfl)
  (h3:(fg r.zero r.size && (Nat.beq r.size 0 || Nat.blt 0 r.bytes) && (match r.ty with | some τ=>Nat.beq (ab τ) r.size && (Fb τ ==r.isAgg) | none=>true))=true:=by kernel_rfl)
  (h8:(Tryz.prog.info? t).map (fun i=>i.zero.map fun z=>xA z ==r.isAgg)=some (some true):=by kernel_rfl)
  (h9:(match r.ti with | .strct true _=>!Tryz.prog.stoodInHeld t && !Tryz.prog.eqGuardType Tryz.prog.depth t | _=>true)=true:=by kernel_rfl):TRok Tryz.prog t r:=TRok.mk' h1 h2 h3 h8 h9
theorem Er:aO Tryz.prog tbl:=
 .cons tk (.cons tk (.cons tk (.cons tk (.cons tk (.cons tk (.cons tk (.cons tk (.cons tk (.cons tk (.cons tk (.cons tk (.cons tk (.cons tk (.cons tk (.cons tk (.cons tk (.cons tk (.cons tk (.cons tk (.cons tk (.cons tk (.cons tk (.cons tk (.cons tk (.cons tk (.cons tk (.cons tk (.cons tk (.cons tk (.cons tk (.cons tk (.cons tk (.cons tk (.cons tk (.cons tk (.cons tk (.cons tk (.cons tk (.cons tk (.cons tk (.cons tk (.cons tk (.cons tk (.cons tk (.cons tk (.cons tk (.cons tk (.cons tk (.cons tk (.cons tk (.cons tk (.cons tk (.cons tk (.cons tk (.cons tk (.cons tk (.cons tk (.cons tk (.cons tk (.cons tk (.cons tk (.cons tk (.cons tk (.cons tk (.cons tk (.cons tk (.cons tk (.cons tk (.cons tk (.cons tk (.cons tk (.cons tk (.cons tk (.cons tk (.cons tk (.cons tk (.cons tk (.cons tk (.cons tk (.cons tk (.cons tk (.cons tk (.cons tk (.cons tk (.cons tk (.cons tk (.cons tk (.cons tk (.cons tk (.cons tk (.cons tk (.cons tk (.cons tk (.cons tk (.cons tk (.cons tk (.cons tk (.cons tk (.cons tk (.cons tk (.cons tk (.cons tk (.cons tk (.cons tk (.cons tk (.cons tk (.cons tk (.cons tk (.cons tk (.cons tk (.cons tk (.cons tk (.cons tk (.cons tk (.cons tk (.cons tk (.cons tk (.cons tk (.cons tk (.cons tk (.cons tk (.cons tk (.cons tk (.cons tk (.cons tk (.cons tk (.cons tk (.cons tk (.cons tk (.cons tk (.cons tk (.cons tk (.cons tk (.cons tk (.cons tk (.cons tk (.cons tk (.cons tk (.cons tk (.cons tk (.cons tk (.cons tk (.cons tk (.cons tk (.cons tk (.cons tk (.cons tk (.cons tk (.cons tk (.cons tk (.cons tk (.cons tk (.cons tk (.cons tk (.cons tk (.cons tk (.cons tk (.cons tk (.cons tk (.cons tk (.cons tk (.cons tk (.cons tk (.cons tk (.cons tk (.cons tk (.cons tk (.cons tk (.cons tk (.cons tk (.cons tk (.cons tk (.cons tk (.cons tk (.cons tk (.cons tk (.cons tk (.cons tk (.cons tk (.cons tk (.cons tk (.cons tk (.cons tk (.cons tk (.cons tk (.cons tk (.cons tk (.cons tk (.cons tk (.cons tk (.cons tk (.cons tk (.cons tk (.cons tk (.cons tk (.cons tk (.cons tk (.cons tk (.cons tk (.cons tk (.cons tk (.cons tk (.cons tk (.cons tk (.cons tk (.cons tk (.cons tk (.cons tk (.cons tk (.cons tk (.cons tk (.cons tk (.cons tk (.cons tk (.cons tk (.cons tk (.cons tk (.cons tk (.cons tk (.cons tk (.cons tk (.cons tk (.cons tk (.cons tk (.cons tk (.cons tk (.cons tk (.cons tk (.cons tk (.cons tk (.cons tk (.cons tk (.cons tk (.cons tk (.cons tk (.cons tk (.cons tk (.cons tk (.cons tk (.cons tk (.cons tk (.cons tk (.cons tk (.cons tk (.cons tk (.cons tk (.cons tk (.cons tk (.cons tk (.cons tk (.cons tk (.cons tk (.cons tk (.cons tk (.cons tk (.cons tk (.cons tk (.cons tk (.cons tk (.cons tk (.cons tk (.cons tk (.cons tk (.cons tk (.cons tk (.cons tk (.cons tk (.cons tk (.cons tk (.cons tk (.cons tk (.cons tk (.cons tk (.cons tk (.cons tk (.cons tk (.cons tk (.cons tk (.nil)))))))))))))))))))))))))))))))))))))))))))))))))))))))))))))))))))))))))))))))))))))))))))))))))))))))))))))))))))))))))))))))))))))))))))))))))))))))))))))))))))))))))))))))))))))))))))))))))))))))))))))))))))))))))))))))))))))))))))))))))))))))))))))))))))))))))))))))))))))))
theorem mixed:Tryz.prog.follows .mixedOrders=true:=by kernel_rfl
end Go.AL.Seat
end
section
namespace Go.Proofs
open Go.Shelf Go.AL
def Tryz.wren:Go.Shelf.Ren:=⟨fun | 166=>61 | 240=>91 | 169=>62 | n=>n,fun | 70=>125 | 9=>9 | 0=>0 | 72=>127 | 37=>122 | 127=>176 | 3=>3 | 5=>5 | 75=>129 | n=>n,fun n=>n⟩
theorem Tryz.wl:WL Tryz.prog Tryz.wren:={
 mixed:=by kernel_rfl
 f166:=Xt Tryz.func61
 t3:=Tryz.underlying3
 a3:=Tryz.isAgg3
 z3:=Tryz.sizeOf3
 v3:=Tryz.zeroValue3
 t9:=Tryz.underlying9
 a9:=Tryz.isAgg9
 z9:=Tryz.sizeOf9
 v9:=Tryz.zeroValue9
 t37:=Tryz.underlying122
 a37:=Tryz.isAgg122
 z37:=Tryz.sizeOf122
 v37:=Tryz.zeroValue122
 t70:=Tryz.underlying125
 a70:=Tryz.isAgg125
 z70:=Tryz.sizeOf125
 v70:=Tryz.zeroValue125
 t72:=Tryz.underlying127
 a72:=Tryz.isAgg127
 z72:=Tryz.sizeOf127
 v72:=Tryz.zeroValue127}
theorem Tryz.bx:Builder.Extra Tryz.prog Tryz.wren:={
 sizeBuilder:=by kernel_rfl
 liesBuilder:=by kernel_rfl
 t5:=Tryz.underlying5
 a5:=Tryz.isAgg5
 z5:=Tryz.sizeOf5
 v5:=Tryz.zeroValue5
 infoByte:=by kernel_rfl
 cellsByte:=by kernel_rfl
 sizeByte:=by kernel_rfl
 neB5:=by decide}
set_option maxHeartbeats 1000000 in
set_option maxRecDepth 100000 in
theorem Tryz.cc:CC Tryz.prog Tryz.wren:=by
 obtain ⟨j,hj,hjs⟩:=Option.map_eq_some_iff.1 Tryz.bx.sizeBuilder
 have hj':Tryz.prog.info? 127=some j:=hj
 have lies:=Tryz.bx.liesBuilder
 refine ⟨enters_of Tryz.func91 (by kernel_rfl) rfl,fun b w h0=>?_,fun b w h0 hsh hfz=>?_⟩
 ·show Calls Tryz.prog 91 _ _ _
  go_enter Tryz.func91,Tryz.ntmps91
  go_wp2
  rw [Lib.run_neq_ptr_same w _ Tryz.underlying125 hj']
  go_wp2
  go_end0
  exact ⟨rfl,rfl⟩
 ·show Calls Tryz.prog 91 _ _ _
  go_enter Tryz.func91,Tryz.ntmps91
  go_wp2
  rw [Lib.run_to_unsafe w ⟨b,0,none⟩ Tryz.underlying125 Tryz.underlying208 hj' (by rw [hjs];decide) hsh (Nat.zero_lt_succ 1)]
  simp only [Result.andThen]
  rw [Oper.upon_value]
  go_wp2
  rw [run_callFunc_extern Tryz.func137 (by kernel_rfl) (by kernel_rfl) (by kernel_rfl) (e:=Extern.AbiNoEscape.same) (by kernel_rfl)]
  rw [Lib.run_noEscape]
  simp only [Result.andThen]
  rw [Oper.upon_value]
  go_wp2
  rw [Lib.run_from_unsafe w ⟨b,0,none⟩ Tryz.underlying208 Tryz.underlying125 hj' hsh lies]
  simp only [Result.andThen]
  rw [Oper.upon_value]
  go_wp2
  go_end0
  exact ⟨rfl,rfl⟩
end Go.Proofs
end
section
namespace Go.Proofs
open Go.Shelf
def Tryz.lays169_ren:Go.Shelf.Ren:=⟨fun | 169=>62 | n=>n,fun | 70=>125 | 9=>9 | 0=>0 | 72=>127 | 37=>122 | 127=>176 | 3=>3 | 5=>5 | n=>n,fun | n=>n⟩
theorem Tryz.lays169:Go.Proofs.Lays.n169 Tryz.prog Tryz.lays169_ren:={
 mixed:=by kernel_rfl
 f169:=Xt Tryz.func62
 t0:=Tryz.underlying0
 a0:=Tryz.isAgg0
 z0:=Tryz.sizeOf0
 v0:=Tryz.zeroValue0
 t3:=Tryz.underlying3
 a3:=Tryz.isAgg3
 z3:=Tryz.sizeOf3
 v3:=Tryz.zeroValue3
 t9:=Tryz.underlying9
 a9:=Tryz.isAgg9
 z9:=Tryz.sizeOf9
 v9:=Tryz.zeroValue9
 t37:=Tryz.underlying122
 a37:=Tryz.isAgg122
 z37:=Tryz.sizeOf122
 v37:=Tryz.zeroValue122
 t70:=Tryz.underlying125
 a70:=Tryz.isAgg125
 z70:=Tryz.sizeOf125
 v70:=Tryz.zeroValue125
 t72:=Tryz.underlying127
 a72:=Tryz.isAgg127
 z72:=Tryz.sizeOf127
 v72:=Tryz.zeroValue127
 t127:=Tryz.underlying176
 a127:=Tryz.isAgg176
 z127:=Tryz.sizeOf176
 v127:=Tryz.zeroValue176}
def Tryz.lays129_ren:Go.Shelf.Ren:=⟨fun | 129=>90 | n=>n,fun | 53=>80 | 3=>3 | 4=>4 | 46=>124 | 5=>5 | 9=>9 | n=>n,fun | n=>n⟩
theorem Tryz.lays129:Go.Proofs.Lays.n129 Tryz.prog Tryz.lays129_ren:={
 mixed:=by kernel_rfl
 f129:=Xt Tryz.func90
 t3:=Tryz.underlying3
 a3:=Tryz.isAgg3
 z3:=Tryz.sizeOf3
 v3:=Tryz.zeroValue3
 t4:=Tryz.underlying4
 a4:=Tryz.isAgg4
 z4:=Tryz.sizeOf4
 v4:=Tryz.zeroValue4
 t5:=Tryz.underlying5
 a5:=Tryz.isAgg5
 z5:=Tryz.sizeOf5
 v5:=Tryz.zeroValue5
 t9:=Tryz.underlying9
 a9:=Tryz.isAgg9
 z9:=Tryz.sizeOf9
 v9:=Tryz.zeroValue9
 t46:=Tryz.underlying124
 a46:=Tryz.isAgg124
 z46:=Tryz.sizeOf124
 v46:=Tryz.zeroValue124
 t53:=Tryz.underlying80
 a53:=Tryz.isAgg80
 z53:=Tryz.sizeOf80
 v53:=Tryz.zeroValue80}
end Go.Proofs
end
section
namespace Go.AL
variable [Tabs]
open Go.Proofs Go.Shelf Go.RowKit Go.Pd
variable {P:Program} {ρ:Ren}
theorem wu {f:Nat} (L:Lays.n129 P ρ) (hf:ρ.f 129=f) (he:ax P f):ag P f (p1 (.int .u64) fun n=>.ret (.int .i64 (mj n))):=by
 subst hf
 refine bK he fun n _ ho=>?_
 refine dK fun w pub vs ht hv=>?_
 obtain ⟨v,rfl,hu⟩:=VL.one_inv hv
 obtain ⟨rfl,h0,h1⟩:=(show V _ (.int .u64 n) v from hu).int_inv
 have h0:(0:Int)<=n:=h0
 have h1:n<=18446744073709551615:=h1
 refine (Any.bits_Len64 L n w h0 h1).mono ?_
 rintro en w' ⟨rfl,rfl⟩
 have hb:=ub n
 unfold mj at hb ⊢
 exact ⟨⟨_,rfl,fun Ω=>.int _ _ (by show (-9223372036854775808:Int)<=_;omega) (by show _<=(9223372036854775807:Int);omega)⟩,Below.refl _ _⟩
end Go.AL
end
section
namespace Go.AL.Seat
open Go Go.AL Go.Proofs Go.Shelf Go.Pd
variable [Tabs]
theorem It:Builder.Extra Tryz.prog Tryz.lays169_ren:={
 sizeBuilder:=by kernel_rfl
 liesBuilder:=by kernel_rfl
 t5:=Tryz.underlying5
 a5:=Tryz.isAgg5
 z5:=Tryz.sizeOf5
 v5:=Tryz.zeroValue5
 infoByte:=by kernel_rfl
 cellsByte:=by kernel_rfl
 sizeByte:=by kernel_rfl
 neB5:=by decide}
theorem Cf:ag Tryz.prog 61 (ql 127 5):=vn Tryz.wl Tryz.cc Tryz.bx rfl rfl rfl (ax.mk' Tryz.func61 (by kernel_rfl))
theorem yP:ag Tryz.prog 62 (nc 127 5):=tP Tryz.lays169 It rfl rfl rfl (ax.mk' Tryz.func62 (by kernel_rfl))
theorem Cg:ag Tryz.prog 90 (p1 (.int .u64) fun n=>.ret (.int .i64 (mj n))):=wu Tryz.lays129 rfl (ax.mk' Tryz.func90 (by kernel_rfl))
end Go.AL.Seat
end
section
open Go Go.AL Go.Pd
namespace Go.AL.Seat
theorem Es (c:Int)  :
  if decide ((97:Int)<=c)=true then True/\decide (c<=(122:Int))=de c/\True else True/\false=de c/\True:=by
 unfold de;simp only [kf];split <;> simp [*]
theorem Et (c:Int)  :
  if decide ((65:Int)<=c)=true then True/\decide (c<=(90:Int))=dt c/\True else True/\false=dt c/\True:=by
 unfold dt;simp only [kf];split <;> simp [*]
theorem Eu (c:Int)  :
  if decide ((48:Int)<=c)=true then True/\decide (c<=(57:Int))=ki c/\True else True/\false=ki c/\True:=by
 unfold ki;simp only [kf];split <;> simp [*]
theorem Gh (c:Int)  :
  let A:=True/\true=gu c/\True;if de c=true then A else if dt c=true then A else if ki c=true then A else True/\decide (c=(95:Int))=gu c/\True:=by
 conv=>zeta
 unfold gu;cases de c <;> cases dt c <;> cases ki c <;> simp
theorem Ch (s:Str) (hs:Wf .str s) :
  let A:=True/\false=cM de s/\True;let B:=(↑(List.length s):Int);let C:=(0:Int);let D:=s=s/\false=false/\B=B/\True;if decide (s=[])=true then A else if decide ((24:Int)<B)=true then A else (C<=C/\C<B)/\if (!de (↑(UInt8.toNat (List.getD s (Int.toNat C) (0:UInt8))):Int))=true then A else (∃(x:Nat),(x<=List.length s/\cM de s=List.all (List.drop x s) fun (c:UInt8)=>gu (bI c))/\C=(↑x:Int)/\D)/\∀(x:Nat),let E:=(↑x:Int);(x<=List.length s/\cM de s=List.all (List.drop x s) fun (c:UInt8)=>gu (bI c))→if decide (E<B)=true then (C<=E/\E<B)/\if (!gu (↑(UInt8.toNat (List.getD s (Int.toNat E) (0:UInt8))):Int))=true then A else inR IntKind.i64 (E+(1:Int))/\∃(y:Nat),(y<=List.length s/\cM de s=List.all (List.drop y s) fun (c:UInt8)=>gu (bI c))/\List.length s - y<List.length s - x/\E+(1:Int)=(↑y:Int)/\D else True/\true=cM de s/\True:=by
 conv=>zeta
 have hlen:=hs.str
 have eb:∀b:UInt8,(b.toNat:Int)=bI b:=fun _=>rfl
 simp only [kf,Int.toNat_natCast,Int.toNat_zero,true_and,and_true,eb,cM]
 generalize de (bI (s.getD 0 0))=f0
 by_cases h0:s=[]
 ·simp [h0]
 have hpos:0 < s.length:=List.length_pos_iff.2 h0
 by_cases h1:s.length<=24
 ·rw [if_neg h0,if_neg (by omega)]
  refine ⟨by omega,?_⟩
  cases f0 with
  | false=>simp
  | true=>
   simp only [Bool.not_true,Bool.false_eq_true,if_false,h0,h1,decide_false,decide_true,Bool.not_false,Bool.true_and]
   refine ⟨⟨0,⟨by omega,rfl⟩,rfl⟩,?_⟩
   rintro k ⟨h3,h4⟩
   split
   ·have hk:k < s.length:=by omega
    rw [bp s k 0 hk,List.all_cons] at h4
    generalize gu (bI (s.getD k 0))=r at h4 ⊢
    refine ⟨by omega,?_⟩
    cases r with
    | false=>simpa using h4.symm
    | true=>
     simp only [Bool.not_true,Bool.false_eq_true,if_false]
     exact ⟨du hk hlen,k+1,⟨by omega,by simpa using h4⟩,by omega,by omega⟩
   ·have hk:k=s.length:=by omega
    subst hk
    simpa using h4.symm
 ·rw [if_neg h0,if_pos (by omega)]
  simp [h1]
theorem Ci (s:Str) (hs:Wf .str s) :
  let A:=True/\false=cM dt s/\True;let B:=(↑(List.length s):Int);let C:=(0:Int);let D:=s=s/\false=false/\B=B/\True;if decide (s=[])=true then A else if decide ((24:Int)<B)=true then A else (C<=C/\C<B)/\if (!dt (↑(UInt8.toNat (List.getD s (Int.toNat C) (0:UInt8))):Int))=true then A else (∃(x:Nat),(x<=List.length s/\cM dt s=List.all (List.drop x s) fun (c:UInt8)=>gu (bI c))/\C=(↑x:Int)/\D)/\∀(x:Nat),let E:=(↑x:Int);(x<=List.length s/\cM dt s=List.all (List.drop x s) fun (c:UInt8)=>gu (bI c))→if decide (E<B)=true then (C<=E/\E<B)/\if (!gu (↑(UInt8.toNat (List.getD s (Int.toNat E) (0:UInt8))):Int))=true then A else inR IntKind.i64 (E+(1:Int))/\∃(y:Nat),(y<=List.length s/\cM dt s=List.all (List.drop y s) fun (c:UInt8)=>gu (bI c))/\List.length s - y<List.length s - x/\E+(1:Int)=(↑y:Int)/\D else True/\true=cM dt s/\True:=by
 conv=>zeta
 have hlen:=hs.str
 have eb:∀b:UInt8,(b.toNat:Int)=bI b:=fun _=>rfl
 simp only [kf,Int.toNat_natCast,Int.toNat_zero,true_and,and_true,eb,cM]
 generalize dt (bI (s.getD 0 0))=f0
 by_cases h0:s=[]
 ·simp [h0]
 have hpos:0 < s.length:=List.length_pos_iff.2 h0
 by_cases h1:s.length<=24
 ·rw [if_neg h0,if_neg (by omega)]
  refine ⟨by omega,?_⟩
  cases f0 with
  | false=>simp
  | true=>
   simp only [Bool.not_true,Bool.false_eq_true,if_false,h0,h1,decide_false,decide_true,Bool.not_false,Bool.true_and]
   refine ⟨⟨0,⟨by omega,rfl⟩,rfl⟩,?_⟩
   rintro k ⟨h3,h4⟩
   split
   ·have hk:k < s.length:=by omega
    rw [bp s k 0 hk,List.all_cons] at h4
    generalize gu (bI (s.getD k 0))=r at h4 ⊢
    refine ⟨by omega,?_⟩
    cases r with
    | false=>simpa using h4.symm
    | true=>
     simp only [Bool.not_true,Bool.false_eq_true,if_false]
     exact ⟨du hk hlen,k+1,⟨by omega,by simpa using h4⟩,by omega,by omega⟩
   ·have hk:k=s.length:=by omega
    subst hk
    simpa using h4.symm
 ·rw [if_neg h0,if_pos (by omega)]
  simp [h1]
theorem Gi (s:Str)  :
  let A:=101;let B:=True/\true=vu s/\True;if decide (s=([109,111,100,117,108,A]:Str))=true then B else if decide (s=([105,109,112,111,114,116]:Str))=true then B else if decide (s=([112,105,110]:Str))=true then B else if decide (s=([114,97,110,103,A]:Str))=true then B else if decide (s=([116,121,112,A]:Str))=true then B else if decide (s=([111,112,97,113,117,A]:Str))=true then B else if decide (s=([108,A,116]:Str))=true then B else if decide (s=([105,110]:Str))=true then B else if decide (s=([A,120,112,111,114,116]:Str))=true then B else if decide (s=([102,117,110]:Str))=true then B else if decide (s=([105,102]:Str))=true then B else if decide (s=([116,104,A,110]:Str))=true then B else if decide (s=([A,108,115,A]:Str))=true then B else if decide (s=([99,97,115,A]:Str))=true then B else if decide (s=([111,102]:Str))=true then B else if decide (s=([97,115]:Str))=true then B else if decide (s=([110,A,119]:Str))=true then B else if decide (s=([114,97,119]:Str))=true then B else if decide (s=([116,114,117,A]:Str))=true then B else if decide (s=([102,97,108,115,A]:Str))=true then B else True/\false=vu s/\True:=by
 conv=>zeta
 refine aa (fun h=>?_) (fun h0=>?_)
 ·rw [Xo h];exact ⟨trivial,rfl,trivial⟩
 refine aa (fun h=>?_) (fun h1=>?_)
 ·rw [Xo h];exact ⟨trivial,rfl,trivial⟩
 refine aa (fun h=>?_) (fun h2=>?_)
 ·rw [Xo h];exact ⟨trivial,rfl,trivial⟩
 refine aa (fun h=>?_) (fun h3=>?_)
 ·rw [Xo h];exact ⟨trivial,rfl,trivial⟩
 refine aa (fun h=>?_) (fun h4=>?_)
 ·rw [Xo h];exact ⟨trivial,rfl,trivial⟩
 refine aa (fun h=>?_) (fun h5=>?_)
 ·rw [Xo h];exact ⟨trivial,rfl,trivial⟩
 refine aa (fun h=>?_) (fun h6=>?_)
 ·rw [Xo h];exact ⟨trivial,rfl,trivial⟩
 refine aa (fun h=>?_) (fun h7=>?_)
 ·rw [Xo h];exact ⟨trivial,rfl,trivial⟩
 refine aa (fun h=>?_) (fun h8=>?_)
 ·rw [Xo h];exact ⟨trivial,rfl,trivial⟩
 refine aa (fun h=>?_) (fun h9=>?_)
 ·rw [Xo h];exact ⟨trivial,rfl,trivial⟩
 refine aa (fun h=>?_) (fun h10=>?_)
 ·rw [Xo h];exact ⟨trivial,rfl,trivial⟩
 refine aa (fun h=>?_) (fun h11=>?_)
 ·rw [Xo h];exact ⟨trivial,rfl,trivial⟩
 refine aa (fun h=>?_) (fun h12=>?_)
 ·rw [Xo h];exact ⟨trivial,rfl,trivial⟩
 refine aa (fun h=>?_) (fun h13=>?_)
 ·rw [Xo h];exact ⟨trivial,rfl,trivial⟩
 refine aa (fun h=>?_) (fun h14=>?_)
 ·rw [Xo h];exact ⟨trivial,rfl,trivial⟩
 refine aa (fun h=>?_) (fun h15=>?_)
 ·rw [Xo h];exact ⟨trivial,rfl,trivial⟩
 refine aa (fun h=>?_) (fun h16=>?_)
 ·rw [Xo h];exact ⟨trivial,rfl,trivial⟩
 refine aa (fun h=>?_) (fun h17=>?_)
 ·rw [Xo h];exact ⟨trivial,rfl,trivial⟩
 refine aa (fun h=>?_) (fun h18=>?_)
 ·rw [Xo h];exact ⟨trivial,rfl,trivial⟩
 refine aa (fun h=>?_) (fun h19=>?_)
 ·rw [Xo h];exact ⟨trivial,rfl,trivial⟩
 refine ⟨trivial,?_,trivial⟩
 symm
 refine Xf fun hm=>?_
 unfold GM at hm
 rcases List.mem_cons.1 hm with e | hm
 ·exact h0 (Xd e)
 rcases List.mem_cons.1 hm with e | hm
 ·exact h1 (Xd e)
 rcases List.mem_cons.1 hm with e | hm
 ·exact h2 (Xd e)
 rcases List.mem_cons.1 hm with e | hm
 ·exact h3 (Xd e)
 rcases List.mem_cons.1 hm with e | hm
 ·exact h4 (Xd e)
 rcases List.mem_cons.1 hm with e | hm
 ·exact h5 (Xd e)
 rcases List.mem_cons.1 hm with e | hm
 ·exact h6 (Xd e)
 rcases List.mem_cons.1 hm with e | hm
 ·exact h7 (Xd e)
 rcases List.mem_cons.1 hm with e | hm
 ·exact h8 (Xd e)
 rcases List.mem_cons.1 hm with e | hm
 ·exact h9 (Xd e)
 rcases List.mem_cons.1 hm with e | hm
 ·exact h10 (Xd e)
 rcases List.mem_cons.1 hm with e | hm
 ·exact h11 (Xd e)
 rcases List.mem_cons.1 hm with e | hm
 ·exact h12 (Xd e)
 rcases List.mem_cons.1 hm with e | hm
 ·exact h13 (Xd e)
 rcases List.mem_cons.1 hm with e | hm
 ·exact h14 (Xd e)
 rcases List.mem_cons.1 hm with e | hm
 ·exact h15 (Xd e)
 rcases List.mem_cons.1 hm with e | hm
 ·exact h16 (Xd e)
 rcases List.mem_cons.1 hm with e | hm
 ·exact h17 (Xd e)
 rcases List.mem_cons.1 hm with e | hm
 ·exact h18 (Xd e)
 rcases List.mem_cons.1 hm with e | hm
 ·exact h19 (Xd e)
 exact absurd hm List.not_mem_nil
theorem Gj (s:Str)  :
  if cM de s=true then True/\(!vu s)=aH s/\True else True/\false=aH s/\True:=by
 unfold aH;cases cM de s <;> simp
theorem Ev (s:Str)  :
  True/\cM dt s=eF s/\True:=by
 simp [eF]
theorem Cj (a:List Str)  :
  True/\a=a/\True:=by
 trivial
theorem Ck (n:Int)  :
  let A:=(mj n+(7:Int));let B:=(8:Int);inR IntKind.i64 A/\(B≠(0:Int)/\inR IntKind.i64 (Int.tdiv A B))/\True/\Int.tdiv A B=b9 n/\True:=by
 conv=>zeta
 have h1:=ub n
 have h2:=qA n
 have e:Int.tdiv (mj n+7) 8=b9 n:=rfl
 rw [e]
 exact ⟨aq (by omega) (by omega),⟨by omega,aq (by omega) (by omega)⟩,trivial,rfl,trivial⟩
theorem yQ (n:Int)  :
  let A:=True;let B:=(fun (n:Int)=>UInt8.ofNat (Int.toNat n));let C:=(0:Int);let D:=(1:Int);let E:=(1:Nat);let F:=((247:Int)+b9 n);let G:=List.replicate (Int.toNat D) C;let H:=ma UInt8=ma UInt8;let I:=b9 n=b9 n;let J:=(8:Int);let K:=(2:Int);let L:=IntKind.bits IntKind.u64;if decide (n<(248:Int))=true then A/\List.map B [IntKind.wrap IntKind.u8 n]=gx n/\A else (C<=D/\D<=(9:Int)/\(9:Int)*(↑E:Int)<=(140737488355328:Int))/\inR IntKind.i64 F/\(C<=C/\C<(↑(List.length G):Int))/\(Int.toNat D=Int.toNat D/\Int.toNat C<List.length G)/\inR IntKind.i64 (b9 n - D)/\(∃(x:Nat),let M:=Int.toNat D=E+x;(↑x:Int)<=b9 n/\b9 n - D=b9 n - D - (↑x:Int)/\M/\List.length G=List.length (lG n x)/\n=n/\H/\false=false/\I/\M/\List.set G (Int.toNat C) (IntKind.wrap IntKind.u8 F)=lG n x/\A)/\∀(x:Nat),let M:=(↑x:Int);let N:=b9 n - D - M;let O:=lG n x;let P:=E+x=E+x/\List.length O=List.length O;let Q:=[IntKind.wrap IntKind.u8 (Int.fdiv n (K ^ min (Int.toNat (J*N)) L))];M<=b9 n→if decide (C<=b9 n - D - M)=true then inR IntKind.i64 (J*N)/\inR IntKind.u64 (J*N)/\C<=J*N/\(P/\(List.length O+List.length Q)*E<=(140737488355328:Nat))/\inR IntKind.i64 (b9 n - D - M - D)/\∃(y:Nat),let R:=E+x+List.length Q=E+y;(↑y:Int)<=b9 n/\Int.toNat (b9 n) - y<Int.toNat (b9 n) - x/\b9 n - D - M - D=b9 n - D - (↑y:Int)/\R/\List.length (lG n x++Q)=List.length (lG n y)/\n=n/\H/\false=false/\I/\R/\lG n x++Q=lG n y/\A else P/\A/\List.map B O=gx n/\A:=by
 conv=>zeta
 have hw:=qA n
 refine aa (fun h=>?_) (fun h=>?_)
 ·replace h:=Xo h
  refine ⟨trivial,?_,trivial⟩
  unfold gx;rw [if_pos h];rfl
 replace h:¬n < 248:=fun e=>h (Xd e)
 refine ⟨⟨by omega,by omega,by omega⟩,aq (by omega) (by omega),⟨by omega,by simp⟩,⟨rfl,by simp⟩,aq (by omega) (by omega),⟨0,by omega,by omega,rfl,by simp [iy],rfl,rfl,rfl,rfl,rfl,rfl,trivial⟩,?_⟩
 intro x hx
 refine aa (fun k=>?_) (fun k=>?_)
 ·replace k:=Xo k
  have e:IntKind.wrap IntKind.u8 (Int.fdiv n ((2:Int) ^ min (Int.toNat ((8:Int) *(b9 n - (1:Int) - (x:Int)))) (IntKind.bits IntKind.u64)))=Ah n (b9 n) x:=rfl
  simp only [e]
  have hl:=iy n x
  have hs:=BQ n x
  refine ⟨aq (by omega) (by omega),⟨by show (0:Int)<=_;omega,by show _<=(18446744073709551615:Int);omega⟩,by omega,⟨⟨by trivial,by trivial⟩,by simp only [List.length_singleton];omega⟩,aq (by omega) (by omega),x+1,by omega,by omega,by omega,by simp only [List.length_singleton];omega,by rw [hs],by trivial,by trivial,by trivial,by trivial,by simp only [List.length_singleton];omega,hs.symm,trivial⟩
 ·replace k:¬(0:Int)<=b9 n - 1 - (x:Int):=fun e=>k (Xd e)
  refine ⟨⟨by trivial,by trivial⟩,trivial,?_,trivial⟩
  have e:x=(b9 n).toNat:=by omega
  subst e
  unfold gx;rw [if_neg h];rfl
theorem Ew (s:Str) (ho:s.length<=140737488355328) :
  let A:=(↑(List.length s):Int);inR IntKind.u64 A/\List.length (gx A)+List.length s<=(9223372036854775807:Nat)/\True/\gx A++s=cH s/\True:=by
 conv=>zeta
 have h9:=kL (s.length:Int)
 exact ⟨⟨by show (0:Int)<=_;omega,by show _<=(18446744073709551615:Int);omega⟩,by omega,trivial,rfl,trivial⟩
theorem Ex (l:List Str) (hl:Wf (.lst .str) l) (ho:(hX l).length<=140737488355328) :
  let A:=(↑(List.length l):Int);let B:=(140737488355328:Nat);let C:=ma UInt8=ma UInt8;let D:=dfl Ty.str;inR IntKind.u64 A/\List.length ([]:Str)+List.length (gx A)<=B/\(∃(x:Nat),x<=List.length l/\(0:Int)=(↑x:Int)/\l=l/\C/\l=l/\A=A/\([]:Str)++gx A=gx A++List.flatMap cH (List.take x l)/\True)/\∀(x:Nat),let E:=(↑x:Int);let F:=List.getD l (Int.toNat E) D;let G:=List.take x l;let H:=gx A++List.flatMap cH G;x<=List.length l→if decide (E<A)=true then ((0:Int)<=E/\E<A)/\List.length F<=B/\List.length H+List.length (cH F)<=B/\inR IntKind.i64 (E+(1:Int))/\∃(y:Nat),y<=List.length l/\List.length l - y<List.length l - x/\E+(1:Int)=(↑y:Int)/\l=l/\C/\l=l/\A=A/\gx A++List.flatMap cH G++cH F=gx A++List.flatMap cH (List.take y l)/\True else List.length H<=aT/\True/\gx A++List.flatMap cH G=hX l/\True:=by
 conv=>zeta
 have ln:=hl.len
 have e:∀x,x<=l.length→(gx (l.length:Int)++(l.take x).flatMap cH).length<=140737488355328:=fun x hx=>by
  have h1:(hX l).length=(gx (l.length:Int)++(l.take x).flatMap cH).length+((l.drop x).flatMap cH).length:=by
   unfold hX
   rw [←List.length_append,List.append_assoc,←List.flatMap_append,List.take_append_drop]
  omega
 have h0:=e 0 (Nat.zero_le _)
 simp only [List.take_zero,List.flatMap_nil,List.append_nil] at h0
 refine ⟨⟨by show (0:Int)<=_;omega,by show _<=(18446744073709551615:Int);omega⟩,by simpa using h0,⟨0,Nat.zero_le _,rfl,rfl,rfl,rfl,rfl,by simp,trivial⟩,?_⟩
 intro x hx
 refine aa (fun k=>?_) (fun k=>?_)
 ·replace k:=Xo k
  have k:x < l.length:=by omega
  have hg:l.take (x+1)=l.take x++[l.getD x []]:=by
   rw [List.take_add_one,List.getElem?_eq_getElem k]
   simp [k]
  have he:=e (x+1) k
  rw [hg,List.flatMap_append,←List.append_assoc,List.length_append] at he
  simp only [List.flatMap_cons,List.flatMap_nil,List.append_nil] at he
  simp only [Int.toNat_natCast]
  have ht:(cH (l.getD x [])).length=(gx ((l.getD x []).length:Int)).length+(l.getD x []).length:=by unfold cH;rw [List.length_append]
  have hd:l.getD x (dfl Ty.str)=l.getD x []:=rfl
  rw [hd]
  refine ⟨⟨by omega,by omega⟩,by omega,he,du k ln,x+1,k,by omega,rfl,by trivial,by trivial,by trivial,by trivial,?_,trivial⟩
  rw [hg,List.flatMap_append,←List.append_assoc]
  simp only [List.flatMap_cons,List.flatMap_nil,List.append_nil]
 ·replace k:¬(x:Int) < (l.length:Int):=fun q=>k (Xd q)
  have k:x=l.length:=by omega
  subst k
  have he:=e l.length (Nat.le_refl _)
  rw [List.take_length] at he ⊢
  exact ⟨Nat.le_trans he (by unfold aT;omega),trivial,rfl,trivial⟩
theorem Ey (s:Str) (p:Int) (b:Bool) (ho:AtS s p/\s.length<=9223372036854775807) :
  let A:=(↑(List.length s):Int);let B:=bd s p b;let C:=(1:Int);if decide (p=A)=true then True/\(0:Int)=B.1/\p=B.2.1/\s=s/\true=B.2.2/\True else inR IntKind.i64 (p+C)/\inR IntKind.i64 (p+C - C)/\((0:Int)<=p+C - C/\p+C - C<A)/\True/\(↑(UInt8.toNat (List.getD s (Int.toNat (p+C - C)) (0:UInt8))):Int)=B.1/\p+C=B.2.1/\s=s/\b=B.2.2/\True:=by
 conv=>zeta
 obtain ⟨⟨h1,h2⟩,ln⟩:=ho
 unfold bd
 refine aa (fun h=>?_) (fun h=>?_)
 ·replace h:=Xo h
  rw [if_pos h]
  exact ⟨trivial,rfl,rfl,rfl,rfl,trivial⟩
 ·replace h:¬p=(s.length:Int):=fun q=>h (Xd q)
  rw [if_neg h]
  have e:p+1 - 1=p:=by omega
  simp only [e]
  exact ⟨aq (by omega) (by omega),aq (by omega) (by omega),⟨by omega,by omega⟩,trivial,rfl,by repeat' (first | exact trivial | rfl | apply And.intro)⟩
theorem Ez (s:Str) (p:Int) (hs:Wf .str s) :
  if decide (p < (0:Int))=true then True/\(0:Int)=(aL s p).1/\(0:Int)=(aL s p).2.1/\(2:Int)=(aL s p).2.2/\True else if decide ((↑(List.length s):Int) < p)=true then True/\(0:Int)=(aL s p).1/\(0:Int)=(aL s p).2.1/\(2:Int)=(aL s p).2.2/\True else (AtS s p/\List.length s<=(9223372036854775807:Nat))/\inR IntKind.u64 (bd s p false).1/\(if decide ((248:Int)<=(bd s p false).1)=true then inR IntKind.i64 (bd s p false).1/\inR IntKind.i64 ((bd s p false).1 - (248:Int))/\inR IntKind.i64 ((bd s p false).1 - (248:Int)+(1:Int))/\(0:Int)=bL (ak s p).1/\(bd s p false).1 - (248:Int)+(1:Int)=bO (ak s p).1/\s=s/\p=p/\(0:Int)=(0:Int)/\(0:Int)=(0:Int)/\(0:Int)=(0:Int)/\false=false/\(bd s p false).1=(bd s p false).1/\s=s/\(bd s p false).2.1=(bd s p false).2.1/\(bd s p false).2.2=(bd s p false).2.2/\True else (bd s p false).1=bL (ak s p).1/\(0:Int)=bO (ak s p).1/\s=s/\p=p/\(0:Int)=(0:Int)/\(0:Int)=(0:Int)/\(0:Int)=(0:Int)/\false=false/\(bd s p false).1=(bd s p false).1/\s=s/\(bd s p false).2.1=(bd s p false).2.1/\(bd s p false).2.2=(bd s p false).2.2/\True)/\(∃(x:Nat),(↑x:Int)<=bO (ak s p).1/\(0:Int)=(↑x:Int)/\bL (ak s p).1=(bT s x (bL (ak s p).1,(ak s p).2.1,(ak s p).2.2)).1/\bO (ak s p).1=bO (ak s p).1/\s=s/\p=p/\(0:Int)=(0:Int)/\(0:Int)=(0:Int)/\(0:Int)=(0:Int)/\false=false/\(bd s p false).1=(bd s p false).1/\bO (ak s p).1=bO (ak s p).1/\(bd s p false).2.1=(bT s x (bL (ak s p).1,(ak s p).2.1,(ak s p).2.2)).2.1/\(bd s p false).2.2=(bT s x (bL (ak s p).1,(ak s p).2.1,(ak s p).2.2)).2.2/\s=s/\True)/\∀(x:Nat),(↑x:Int)<=bO (ak s p).1→if decide ((↑x:Int) < bO (ak s p).1)=true then (0:Int)<=(8:Int)/\(AtS s (bT s x (bL (ak s p).1,(ak s p).2.1,(ak s p).2.2)).2.1/\List.length s<=(9223372036854775807:Nat))/\inR IntKind.u64 (bd s (bT s x (bL (ak s p).1,(ak s p).2.1,(ak s p).2.2)).2.1 (bT s x (bL (ak s p).1,(ak s p).2.1,(ak s p).2.2)).2.2).1/\inR IntKind.i64 ((↑x:Int)+(1:Int))/\∃(y:Nat),(↑y:Int)<=bO (ak s p).1/\Int.toNat (bO (ak s p).1) - y < Int.toNat (bO (ak s p).1) - x/\(↑x:Int)+(1:Int)=(↑y:Int)/\IntKind.wrap IntKind.u64 (↑(BitVec.toNat (BitVec.ofInt (IntKind.bits IntKind.u64) (IntKind.wrap IntKind.u64 ((bT s x (bL (ak s p).1,(ak s p).2.1,(ak s p).2.2)).1 *(2:Int) ^ min (Int.toNat (8:Int)) (IntKind.bits IntKind.u64))) ||| BitVec.ofInt (IntKind.bits IntKind.u64) (bd s (bT s x (bL (ak s p).1,(ak s p).2.1,(ak s p).2.2)).2.1 (bT s x (bL (ak s p).1,(ak s p).2.1,(ak s p).2.2)).2.2).1)):Int)=(bT s y (bL (ak s p).1,(ak s p).2.1,(ak s p).2.2)).1/\bO (ak s p).1=bO (ak s p).1/\s=s/\p=p/\(0:Int)=(0:Int)/\(0:Int)=(0:Int)/\(0:Int)=(0:Int)/\false=false/\(bd s p false).1=(bd s p false).1/\bO (ak s p).1=bO (ak s p).1/\(bd s (bT s x (bL (ak s p).1,(ak s p).2.1,(ak s p).2.2)).2.1 (bT s x (bL (ak s p).1,(ak s p).2.1,(ak s p).2.2)).2.2).2.1=(bT s y (bL (ak s p).1,(ak s p).2.1,(ak s p).2.2)).2.1
  /\(bd s (bT s x (bL (ak s p).1,(ak s p).2.1,(ak s p).2.2)).2.1 (bT s x (bL (ak s p).1,(ak s p).2.1,(ak s p).2.2)).2.2).2.2=(bT s y (bL (ak s p).1,(ak s p).2.1,(ak s p).2.2)).2.2/\s=s/\True else if (bT s x (bL (ak s p).1,(ak s p).2.1,(ak s p).2.2)).2.2=true then True/\(0:Int)=(aL s p).1/\(0:Int)=(aL s p).2.1/\(10:Int)=(aL s p).2.2/\True else if decide ((0:Int) < bO (ak s p).1)=true then if decide ((bT s x (bL (ak s p).1,(ak s p).2.1,(ak s p).2.2)).1 < (248:Int))=true then True/\(0:Int)=(aL s p).1/\(0:Int)=(aL s p).2.1/\(11:Int)=(aL s p).2.2/\True else if (!decide (b9 (bT s x (bL (ak s p).1,(ak s p).2.1,(ak s p).2.2)).1=bO (ak s p).1))=true then True/\(0:Int)=(aL s p).1/\(0:Int)=(aL s p).2.1/\(11:Int)=(aL s p).2.2/\True else True/\(bT s x (bL (ak s p).1,(ak s p).2.1,(ak s p).2.2)).1=(aL s p).1/\(bT s x (bL (ak s p).1,(ak s p).2.1,(ak s p).2.2)).2.1=(aL s p).2.1/\(0:Int)=(aL s p).2.2/\True else True/\(bT s x (bL (ak s p).1,(ak s p).2.1,(ak s p).2.2)).1=(aL s p).1/\(bT s x (bL (ak s p).1,(ak s p).2.1,(ak s p).2.2)).2.1=(aL s p).2.1/\(0:Int)=(aL s p).2.2/\True:=by
 have ln:=hs.str
 have eT:∀(a b:Int) (c:Prop),True/\a=b/\c↔a=b/\c:=fun _ _ _=>⟨fun h=>h.2,fun h=>⟨trivial,h⟩⟩
 have bad:p < 0∨(s.length:Int) < p→aL s p=(0,0,2):=fun h=>by unfold aL;rw [if_pos h]
 refine aa (fun h=>?_) (fun h=>?_)
 ·rw [bad (.inl (Xo h))];exact ⟨trivial,rfl,rfl,rfl,trivial⟩
 replace h:¬p < 0:=fun q=>h (Xd q)
 refine aa (fun h2=>?_) (fun h2=>?_)
 ·rw [bad (.inr (Xo h2))];exact ⟨trivial,rfl,rfl,rfl,trivial⟩
 replace h2:¬(s.length:Int) < p:=fun q=>h2 (Xd q)
 have ha:AtS s p:=⟨by omega,by omega⟩
 obtain ⟨b1,b2,b3,b4,b5⟩:=oK (b:=false) ha
 have hK:0<=bO (ak s p).1/\bO (ak s p).1<=8:=by unfold bO ak;split <;> omega
 refine ⟨⟨ha,ln⟩,⟨by show (0:Int)<=_;omega,by show _<=(18446744073709551615:Int);omega⟩,aa (fun k=>?_) (fun k=>?_),⟨0,hK.1,rfl,rfl,rfl,rfl,rfl,rfl,rfl,rfl,rfl,rfl,rfl,rfl,rfl,rfl,trivial⟩,?_⟩
 ·replace k:=Xo k
  refine ⟨aq (by omega) (by omega),aq (by omega) (by omega),aq (by omega) (by omega),?_,?_,rfl,rfl,rfl,rfl,rfl,rfl,rfl,rfl,rfl,rfl,trivial⟩
  ·unfold bL ak;rw [if_pos k]
  ·unfold bO ak;rw [if_pos k];omega
 ·replace k:¬248<=(bd s p false).1:=fun q=>k (Xd q)
  refine ⟨?_,?_,rfl,rfl,rfl,rfl,rfl,rfl,rfl,rfl,rfl,rfl,trivial⟩
  ·unfold bL ak;rw [if_neg k]
  ·unfold bO ak;rw [if_neg k]
 intro x hx
 obtain ⟨c1,c2,c3,c4⟩:=uc x (bL (ak s p).1,(ak s p).2.1,(ak s p).2.2) b4 (Ai b1)
 have d:=oK (b:=(bT s x (bL (ak s p).1,(ak s p).2.1,(ak s p).2.2)).2.2) c2
 refine aa (fun k=>?_) (fun k=>?_)
 ·replace k:=Xo k
  exact ⟨by omega,⟨c2,ln⟩,⟨by show (0:Int)<=_;omega,by show _<=(18446744073709551615:Int);omega⟩,aq (by omega) (by omega),x+1,by omega,by omega,by omega,rfl,rfl,rfl,rfl,rfl,rfl,rfl,rfl,rfl,rfl,rfl,rfl,rfl,trivial⟩
 replace k:¬(x:Int) < bO (ak s p).1:=fun q=>k (Xd q)
 have ex:x=(bO (ak s p).1).toNat:=by omega
 subst ex
 have e2:bT s (bO (ak s p).1).toNat (bL (ak s p).1,(ak s p).2.1,(ak s p).2.2)=hZ s p:=rfl
 rw [e2]
 have e:aL s p=if (hZ s p).2.2=true then (0,0,10) else if 0 < bO (ak s p).1/\((hZ s p).1 < 248∨b9 (hZ s p).1≠bO (ak s p).1) then (0,0,11) else ((hZ s p).1,(hZ s p).2.1,0):=by
  unfold aL;rw [if_neg (by omega)]
 rw [e]
 refine aa (fun q=>?_) (fun q=>?_)
 ·rw [if_pos q];exact ⟨trivial,rfl,rfl,rfl,trivial⟩
 rw [if_neg q]
 refine aa (fun r=>?_) (fun r=>?_)
 ·replace r:=Xo r
  refine aa (fun t=>?_) (fun t=>?_)
  ·rw [if_pos ⟨r,.inl (Xo t)⟩];exact ⟨trivial,rfl,rfl,rfl,trivial⟩
  replace t:¬(hZ s p).1 < 248:=fun q=>t (Xd q)
  refine aa (fun u=>?_) (fun u=>?_)
  ·have u:¬b9 (hZ s p).1=bO (ak s p).1:=by simpa using u
   rw [if_pos ⟨r,.inr u⟩];exact ⟨trivial,rfl,rfl,rfl,trivial⟩
  ·have u:b9 (hZ s p).1=bO (ak s p).1:=by simpa using u
   rw [if_neg (fun z=>z.2.elim t (fun z=>z u))];exact ⟨trivial,rfl,rfl,rfl,trivial⟩
 ·replace r:¬0 < bO (ak s p).1:=fun q=>r (Xd q)
  rw [if_neg (fun z=>r z.1)];exact ⟨trivial,rfl,rfl,rfl,trivial⟩
theorem Cl (s:Str) (p:Int) (hs:Wf .str s) :
  let A:=aL s p;let B:=(0:Int);let C:=True;let D:=bX s p;let E:=(↑(List.length s):Int);let F:=E - A.2.1;let G:=A.2.1+A.1;if (!decide (A.2.2=B))=true then C/\[]=D.1/\B=D.2.1/\A.2.2=D.2.2/\C else inR IntKind.i64 F/\inR IntKind.u64 F/\if decide (E - A.2.1<A.1)=true then C/\[]=D.1/\B=D.2.1/\(10:Int)=D.2.2/\C else inR IntKind.i64 A.1/\inR IntKind.i64 G/\(B<=A.2.1/\A.2.1<=A.2.1+A.1/\A.2.1+A.1<=E)/\C/\List.drop (Int.toNat A.2.1) (List.take (Int.toNat G) s)=D.1/\A.2.1+A.1=D.2.1/\B=D.2.2/\C:=by
 conv=>zeta
 have ln:=hs.str
 obtain ⟨h1,h2,h3⟩:=kM s p
 unfold bX
 refine aa (fun h=>?_) (fun h=>?_)
 ·have h:(aL s p).2.2≠0:=by simpa using h
  rw [if_pos h];exact ⟨trivial,rfl,rfl,rfl,trivial⟩
 have h:(aL s p).2.2=0:=by simpa using h
 obtain ⟨a1,a2,a3⟩:=h3 h
 rw [if_neg (show ¬(aL s p).2.2≠0 from fun q=>q h)]
 unfold AtS InU at *
 refine ⟨aq (by omega) (by omega),⟨by show (0:Int)<=_;omega,by show _<=(18446744073709551615:Int);omega⟩,aa (fun k=>?_) (fun k=>?_)⟩
 ·rw [if_pos (Xo k)];exact ⟨trivial,rfl,rfl,rfl,trivial⟩
 have k:¬(s.length:Int) - (aL s p).2.1 < (aL s p).1:=fun q=>k (Xd q)
 rw [if_neg k]
 exact ⟨aq (by omega) (by omega),aq (by omega) (by omega),⟨by omega,by omega,by omega⟩,trivial,rfl,rfl,rfl,trivial⟩
theorem Cm (s:Str) (p:Int) (hs:Wf .str s) (ho:s.length<=1099511627776) :
  let A:=aL s p;let B:=(0:Int);let C:=True;let D:=cR s p;let E:=(↑(List.length s):Int);let F:=(1:Int);let G:=A.2.2=A.2.2;if (!decide (A.2.2=B))=true then C/\D.1=[]/\B=D.2.1/\A.2.2=D.2.2/\C else (∃(x:Nat × Int × List Str × Int),(AtS s x.2.2.2/\E+F<=(↑x.1:Int)+x.2.2.2/\InU x.2.1/\(↑(wL x.2.2.1):Int)<=x.2.2.2/\eG s x.1 x.2.1 x.2.2.1 x.2.2.2=cR s p)/\A.1=x.2.1/\x.2.2.1=[]/\A.2.1=x.2.2.2/\s=s/\G/\false=false/\List.length x.2.2.1=(0:Nat)/\C)/\∀(x:Nat × Int × List Str × Int),let H:=bX s x.2.2.2;AtS s x.2.2.2/\E+F<=(↑x.1:Int)+x.2.2.2/\InU x.2.1/\(↑(wL x.2.2.1):Int)<=x.2.2.2/\eG s x.1 x.2.1 x.2.2.1 x.2.2.2=cR s p→if decide (B<x.2.1)=true then if (!decide (H.2.2=B))=true then C/\D.1=[]/\B=D.2.1/\H.2.2=D.2.2/\C else (List.length x.2.2.1=List.length x.2.2.1/\(List.length x.2.2.1+List.length [H.1])*(16:Nat)<=(140737488355328:Nat))/\inR IntKind.u64 (x.2.1 - F)/\∃(y:Nat × Int × List Str × Int),(AtS s y.2.2.2/\E+F<=(↑y.1:Int)+y.2.2.2/\InU y.2.1/\(↑(wL y.2.2.1):Int)<=y.2.2.2/\eG s y.1 y.2.1 y.2.2.1 y.2.2.2=cR s p)/\y.1<x.1/\x.2.1 - F=y.2.1/\x.2.2.1++[H.1]=y.2.2.1/\H.2.1=y.2.2.2/\s=s/\G/\false=false/\List.length (x.2.2.1++[H.1])=List.length y.2.2.1/\C else C/\x.2.2.1=D.1/\x.2.2.2=D.2.1/\B=D.2.2/\C:=by
 conv=>zeta
 have ln:=hs.str
 obtain ⟨h1,h2,h3⟩:=kM s p
 refine aa (fun h=>?_) (fun h=>?_)
 ·have h:(aL s p).2.2≠0:=by simpa using h
  unfold cR
  rw [if_pos h];exact ⟨trivial,rfl,rfl,rfl,trivial⟩
 have h:(aL s p).2.2=0:=by simpa using h
 obtain ⟨a1,a2,a3⟩:=h3 h
 refine ⟨⟨(s.length+1,(aL s p).1,[],(aL s p).2.1),⟨a2,by unfold AtS at a2;simp only;omega,h1,by unfold AtS at a2;simp only [wL,List.map_nil,List.sum_nil];omega,by unfold cR;rw [if_neg (by simp [h])]⟩,rfl,rfl,rfl,rfl,rfl,rfl,rfl,trivial⟩,?_⟩
 rintro ⟨k,n,acc,q⟩ ⟨g1,g2,g3,g4,g5⟩
 simp only at g1 g2 g3 g4 g5 ⊢
 obtain ⟨t1,t2,t3⟩:=mo s q
 have hw:=BR acc
 cases k with
 | zero=>unfold AtS at g1;omega
 | succ k=>
 unfold eG at g5
 refine aa (fun r=>?_) (fun r=>?_)
 ·replace r:=Xo r
  rw [if_pos r] at g5
  refine aa (fun u=>?_) (fun u=>?_)
  ·have u:(bX s q).2.2≠0:=by simpa using u
   rw [if_pos u] at g5
   rw [←g5]
   exact ⟨trivial,rfl,rfl,rfl,trivial⟩
  ·have u:(bX s q).2.2=0:=by simpa using u
   rw [if_neg (by simp [u])] at g5
   obtain ⟨v1,v2,v3⟩:=t1 u
   unfold AtS InU at *
   refine ⟨⟨trivial,by simp only [List.length_singleton];omega⟩,⟨by show (0:Int)<=_;omega,by show _<=(18446744073709551615:Int);omega⟩,(k,n - 1,acc++[(bX s q).1],(bX s q).2.1),⟨v2,by simp only;omega,by simp only;omega,?_,g5⟩,by simp,by repeat' (first | exact trivial | rfl | apply And.intro)⟩
   simp only [DU]
   simp [wL] at g4 ⊢
   omega
 ·replace r:=fun z=>r (Xd z)
  rw [if_neg r] at g5
  rw [←g5]
  exact ⟨trivial,rfl,rfl,rfl,trivial⟩
theorem Cn (l:List Str) (ho:l.length *16<=140737488355328) :
  let A:=(↑(List.length l):Int);let B:=l=l/\l=l/\A=A/\True;let C:=(List.mergeSort l fun (x y:Str)=>decide (x<=y));(∃(x:Nat),(x<=List.length l/\List.all l aH=List.all (List.drop x l) aH)/\(0:Int)=(↑x:Int)/\B)/\∀(x:Nat),let D:=(↑x:Int);x<=List.length l/\List.all l aH=List.all (List.drop x l) aH→if decide (D<A)=true then ((0:Int)<=D/\D<A)/\if (!aH (List.getD l (Int.toNat D) (dfl Ty.str)))=true then True/\false=fR l/\True else inR IntKind.i64 (D+(1:Int))/\∃(y:Nat),(y<=List.length l/\List.all l aH=List.all (List.drop y l) aH)/\List.length l - y<List.length l - x/\D+(1:Int)=(↑y:Int)/\B else List.length l*(16:Nat)<=(140737488355328:Nat)/\List.length C=List.length C/\True/\decide ((↑(List.length (Lib.compact C)):Int)=A)=fR l/\True:=by
 conv=>zeta
 have hc:=gZ l
 unfold fb at hc
 refine ⟨⟨0,⟨Nat.zero_le _,by simp⟩,rfl,rfl,rfl,rfl,trivial⟩,?_⟩
 rintro k ⟨h1,h2⟩
 refine aa (fun h=>?_) (fun h=>?_)
 ·replace h:=Xo h
  have h:k < l.length:=by omega
  simp only [Int.toNat_natCast]
  rw [bp l k (dfl Ty.str) h,List.all_cons] at h2
  refine ⟨⟨by omega,by omega⟩,aa (fun m=>?_) (fun m=>?_)⟩
  ·have m:aH (l.getD k (dfl Ty.str))=false:=by simpa using m
   rw [m,Bool.false_and] at h2
   refine ⟨trivial,?_,trivial⟩
   unfold fR;rw [h2];rfl
  ·have m:aH (l.getD k (dfl Ty.str))=true:=by simpa using m
   rw [m,Bool.true_and] at h2
   exact ⟨aq (by omega) (by omega),k+1,⟨h,h2⟩,by omega,by omega,by repeat' (first | exact trivial | rfl | apply And.intro)⟩
 ·replace h:¬(k:Int) < (l.length:Int):=fun q=>h (Xd q)
  have h:k=l.length:=by omega
  subst h
  rw [List.drop_length] at h2
  refine ⟨ho,rfl,trivial,?_,trivial⟩
  unfold fR
  rw [h2,List.all_nil,Bool.true_and,decide_eq_decide,←hc]
  omega
theorem yR (o:Opn) (ho:o.names.length *16<=140737488355328) :
  let A:=o=o;let B:=false=false;let C:=o.kind=o.kind;let D:=A/\True;let E:=B/\B/\C/\D;let F:=A/\B/\B/\E;let G:=true=is8 o.kind/\F;let H:=(↑(List.length o.names):Int);let I:=H=toN o;let J:=true=true;let K:=(0:Int);let L:=J/\A/\B/\decide (K<=o.n)=decide (K<=o.n)/\E;let M:=K=toN o;let N:=True/\false=kN o/\True;let O:=if decide ((↑(List.length o.tos):Int)=toN o)=true then True/\decide (K<=o.pos)=kN o/\True else N;let P:=if decide (H=K)=true then O else N;let Q:=if (!decide (o.name=[]))=true then N else if decide ((17:Int)<=o.kind)=true then N else if decide (o.kind=(9:Int))=true then N else if decide (o.kind=(10:Int))=true then N else P;let R:=if (!decide (o.n=K))=true then N else if decide (o.kind=(3:Int))=true then N else if decide (o.kind=(5:Int))=true then N else Q;let S:=B/\B/\C/\J/\D;let T:=B/\A/\B/\J/\S;let U:=B/\A/\B/\decide (o.n=(1:Int))=decide (o.n=(1:Int))/\S;let V:=B/\A/\B/\decide (o.n=(110:Int))=decide (o.n=(110:Int))/\B/\B/\C/\B/\J/\D;let W:=B/\B/\J/\D;let X:=B/\A/\B/\B/\J/\B/\C/\W;let Y:=C/\B/\B/\B/\D;let Z:=B/\A/\B/\B/\B/\B/\Y;let a:=J/\B/\A/\B/\B/\aH o.name=aH o.name/\B/\Y;let b:=J/\B/\B/\A/\B/\B/\eF o.name=eF o.name/\B/\Y;let c:=J/\B/\B/\B/\A/\B/\B/\B/\fR o.names=fR o.names/\Y;let d:=B/\B/\B/\B/\A/\B/\B/\B/\B/\C/\B/\W;(if decide (o.kind=(1:Int))=true then G else if decide (o.kind=(4:Int))=true then G else if decide (o.kind=(6:Int))=true then G else if decide (o.kind=(7:Int))=true then G else if decide (o.kind=(11:Int))=true then G else if decide (o.kind=(13:Int))=true then G else if decide (o.kind=(14:Int))=true then G else decide (o.kind=(15:Int))=is8 o.kind/\F)/\if is8 o.kind=true then (if decide (o.kind=(16:Int))=true then I/\L else M/\L)/\if (!decide (K<=o.n))=true then R else Q else if decide (o.kind=(3:Int))=true then if decide (o.n=K)=true then (if decide (o.kind=(16:Int))=true then I/\T else M/\T)/\Q else (if decide (o.kind=(16:Int))=true then I/\U else M/\U)/\if (!decide (o.n=(1:Int)))=true then R else Q else if decide (o.kind=(5:Int))=true then (if decide (o.kind=(16:Int))=true then I/\V else M/\V)/\if (!decide (o.n=(110:Int)))=true then R else Q else if decide (o.kind=(2:Int))=true then (if decide (o.kind=(16:Int))=true then I/\X else M/\X)/\if (!decide (o.n=K))=true then N else if decide (o.kind=(3:Int))=true then N else if decide (o.kind=(5:Int))=true then N else P else (if decide (o.kind=(9:Int))=true then true=isB o.kind/\Z else decide (o.kind=(10:Int))=isB o.kind/\Z)/\if isB o.kind=true then (if decide (o.kind=(16:Int))=true then I/\a else M/\a)/\if (!decide (o.n=K))=true then N else if decide (o.kind=(3:Int))=true then N else if decide (o.kind=(5:Int))=true then N else if (!aH o.name)=true then Q else P else (if decide (o.kind=(17:Int))=true then true=isU o.kind/\B/\Z else decide (o.kind=(18:Int))=isU o.kind/\B/\Z)/\if isU o.kind=true then (if decide (o.kind=(16:Int))=true then I/\b else M/\b)/\if (!decide (o.n=K))=true then N else if decide (o.kind=(3:Int))=true then N else if decide (o.kind=(5:Int))=true then N else if (!eF o.name)=true then Q else P else (if decide (o.kind=(8:Int))=true then true=isR o.kind/\B/\B/\Z else decide (o.kind=(16:Int))=isR o.kind/\B/\B/\Z)/\if isR o.kind=true then List.length o.names*(16:Nat)<=(140737488355328:Nat)/\(if decide (o.kind=(16:Int))=true then I/\c else M/\c)/\if (!decide (o.n=K))=true then N else if decide (o.kind=(3:Int))=true then N else if decide (o.kind=(5:Int))=true then N else if (!decide (o.name=[]))=true then N else if decide ((17:Int)<=o.kind)=true then N else if decide (o.kind=(9:Int))=true then N else if decide (o.kind=(10:Int))=true then N else if fR o.names=true then O else P else if decide (o.kind=(12:Int))=true then (if decide (o.kind=(16:Int))=true then I/\d else M/\d)/\R else N:=by
 conv=>zeta
 repeat' (first | exact trivial | rfl | refine aa (fun _=>?_) (fun _=>?_) | refine And.intro ?_ ?_)
 all_goals (simp_all [kN,mr,is8,isB,isU,isR,toN] <;> omega)
theorem EA (o:Opn)  :
  let A:=(1:Int);let B:=(0:Int);let C:=B=B;let D:=o.kind=o.kind;let E:=True;let F:=o=o/\C/\C/\D/\o=o/\E;let G:=true=is6 o.kind/\F;let H:=iV o;let I:=A=H.2/\E;let J:=(↑(List.length o.names):Int);let K:=false=false;let L:=K/\K/\K/\o=o/\E;let M:=K/\o=o/\C/\C/\D/\L;let N:=true=is4 o.kind/\M;let O:=E/\A=H.1/\I;let P:=B=H.2/\E;let Q:=E/\A=H.1/\P;let R:=K/\K/\o=o/\C/\C/\D/\K/\L;(if decide (o.kind=A)=true then G else if decide (o.kind=(2:Int))=true then G else if decide (o.kind=(3:Int))=true then G else if decide (o.kind=(4:Int))=true then G else if decide (o.kind=(6:Int))=true then G else decide (o.kind=(5:Int))=is6 o.kind/\F)/\if is6 o.kind=true then E/\B=H.1/\I else if decide (o.kind=(7:Int))=true then E/\IntKind.wrap IntKind.i64 (o.n+A)=H.1/\I else if decide (o.kind=(8:Int))=true then E/\J=H.1/\I else if decide (o.kind=(11:Int))=true then E/\o.n=H.1/\I else (if decide (o.kind=(9:Int))=true then N else if decide (o.kind=(10:Int))=true then N else if decide (o.kind=(17:Int))=true then N else decide (o.kind=(18:Int))=is4 o.kind/\M)/\if is4 o.kind=true then O else if decide (o.kind=(16:Int))=true then if decide (J=B)=true then O else Q else (if decide (o.kind=(12:Int))=true then true=is2 o.kind/\R else decide (o.kind=(14:Int))=is2 o.kind/\R)/\if is2 o.kind=true then Q else E/\B=H.1/\P:=by
 conv=>zeta
 repeat' (first | exact trivial | rfl | refine aa (fun _=>?_) (fun _=>?_) | refine And.intro ?_ ?_)
 all_goals simp_all [iV,is6,is4,is2]
theorem EB (l:List Stt) (n:Nat) (tgt:Int) (s:Stt) (ho:0<=tgt/\tgt < n/\n=l.length) :
  let A:=((0:Int)<=tgt/\tgt<(↑n:Int));let B:=Int.toNat tgt<List.length l;let C:=Int.toNat tgt;let D:=dfl (Ty.st SN.stt);let E:=List.getD l C D;let F:=List.set l C s;let G:=List.getD F C D;A/\B/\if decide (E.things<(0:Int))=true then A/\B/\A/\Int.toNat tgt<List.length F/\True/\(decide (G.things=s.things) && (decide (G.names=s.names) && true))=cI l tgt s/\n=n/\List.set l C s=cz l tgt s/\True else A/\B/\True/\(decide (E.things=s.things) && (decide (E.names=s.names) && true))=cI l tgt s/\n=n/\l=cz l tgt s/\True:=by
 conv=>zeta
 obtain ⟨h1,h2,h3⟩:=ho
 have hb:∀x y:Stt,(decide (x.things=y.things) && (decide (x.names=y.names) && true))=eqT x y:=fun x y=>by unfold eqT;simp
 have hd:dfl (Ty.st SN.stt)=(default:Stt):=rfl
 simp only [hb,hd]
 refine ⟨⟨h1,h2⟩,by omega,aa (fun k=>?_) (fun k=>?_)⟩
 ·replace k:=Xo k
  have e:cz l tgt s=l.set tgt.toNat s:=by unfold cz;rw [if_pos k]
  unfold cI
  rw [e]
  exact ⟨⟨h1,h2⟩,by omega,⟨h1,h2⟩,by simp;omega,trivial,rfl,by repeat' (first | exact trivial | rfl | apply And.intro)⟩
 ·replace k:¬(l.getD tgt.toNat default).things < 0:=fun q=>k (Xd q)
  have e:cz l tgt s=l:=by unfold cz;rw [if_neg k]
  unfold cI
  rw [e]
  exact ⟨⟨h1,h2⟩,by omega,trivial,rfl,by repeat' (first | exact trivial | rfl | apply And.intro)⟩
end Go.AL.Seat
end
