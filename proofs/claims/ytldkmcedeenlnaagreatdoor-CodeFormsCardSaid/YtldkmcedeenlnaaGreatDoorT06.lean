/- What the functions' conditions say, proved. Plain facts. No condition. -/
import Derived.Test.YtldkmcedeenlnaaGreatDoorT05
import Derived.Shelf.Slices.Clone
import Derived.Test.YtldkmcedeenlnaaGreatDoorProg
set_option linter.all false
set_option maxRecDepth 100000
section
open Go Go.AL Go.Pd
namespace Go.AL.Seat
theorem u4 (s:Str) (ho:s.length<=68719476736) :
  (∃(x:Nat × Int × List Chnk × Int × Bool),(AtS s x.2.2.2.1/\x.2.1<=(9223372036854775807:Int)/\cH s x.2.2.2.1 x.2.2.2.2<=(↑x.1:Int)/\(↑(wCs x.2.2.1):Int)<=x.2.2.2.1+aQ x.2.2.2.2 (4:Int)/\chL s x.1 x.2.1 x.2.2.1 x.2.2.2.1 x.2.2.2.2=jb s)/\(tkN s (0:Int) false).1=x.2.1/\x.2.2.1=[]/\s=s/\(0:Int)=(0:Int)/\s=s/\(tkN s (0:Int) false).2.1=x.2.2.2.1/\(tkN s (0:Int) false).2.2=x.2.2.2.2/\List.length x.2.2.1=(0:Nat)/\True)/\∀(x:Nat × Int × List Chnk × Int × Bool),AtS s x.2.2.2.1/\x.2.1<=(9223372036854775807:Int)/\cH s x.2.2.2.1 x.2.2.2.2<=(↑x.1:Int)/\(↑(wCs x.2.2.1):Int)<=x.2.2.2.1+aQ x.2.2.2.2 (4:Int)/\chL s x.1 x.2.1 x.2.2.1 x.2.2.2.1 x.2.2.2.2=jb s→if decide ((0:Int) < x.2.1)=true then if (!x.2.2.2.2)=true then (∃(x_1:Nat × Int × List Opn × Int × Bool),(AtS s x_1.2.2.2.1/\x_1.2.1<=(9223372036854775807:Int)/\cH s x_1.2.2.2.1 x_1.2.2.2.2<=(↑x_1.1:Int)/\(↑(wOs x_1.2.2.1):Int)<=x_1.2.2.2.1+aQ x_1.2.2.2.2 (3:Int)/\fR s x_1.1 x_1.2.1 x_1.2.2.1 x_1.2.2.2.1 x_1.2.2.2.2=fR s (List.length s+(2:Nat)) (tkN s (tkN s x.2.2.2.1 x.2.2.2.2).2.1 (tkN s x.2.2.2.1 x.2.2.2.2).2.2).1 [] (tkN s (tkN s x.2.2.2.1 x.2.2.2.2).2.1 (tkN s x.2.2.2.1 x.2.2.2.2).2.2).2.1 (tkN s (tkN s x.2.2.2.1 x.2.2.2.2).2.1 (tkN s x.2.2.2.1 x.2.2.2.2).2.2).2.2)/\(tkN s (tkN s x.2.2.2.1 x.2.2.2.2).2.1 (tkN s x.2.2.2.1 x.2.2.2.2).2.2).1=x_1.2.1/\x.2.1=x.2.1/\x.2.2.1=x.2.2.1/\s=s/\(0:Int)=(0:Int)/\true=true/\(tkN s x.2.2.2.1 x.2.2.2.2).1=(tkN s x.2.2.2.1 x.2.2.2.2).1/\x_1.2.2.1=[]/\s=s/\(tkN s (tkN s x.2.2.2.1 x.2.2.2.2).2.1 (tkN s x.2.2.2.1 x.2.2.2.2).2.2).2.1=x_1.2.2.2.1/\(tkN s (tkN s x.2.2.2.1 x.2.2.2.2).2.1 (tkN s x.2.2.2.1 x.2.2.2.2).2.2).2.2=x_1.2.2.2.2/\List.length x_1.2.2.1=(0:Nat)/\List.length x.2.2.1=List.length x.2.2.1/\True)/\∀(x_1:Nat × Int × List Opn × Int × Bool),AtS s x_1.2.2.2.1/\x_1.2.1<=(9223372036854775807:Int)/\cH s x_1.2.2.2.1 x_1.2.2.2.2<=(↑x_1.1:Int)/\(↑(wOs x_1.2.2.1):Int)<=x_1.2.2.2.1+aQ x_1.2.2.2.2 (3:Int)/\fR s x_1.1 x_1.2.1 x_1.2.2.1 x_1.2.2.2.1 x_1.2.2.2.2=fR s (List.length s+(2:Nat)) (tkN s (tkN s x.2.2.2.1 x.2.2.2.2).2.1 (tkN s x.2.2.2.1 x.2.2.2.2).2.2).1 [] (tkN s (tkN s x.2.2.2.1 x.2.2.2.2).2.1 (tkN s x.2.2.2.1 x.2.2.2.2).2.2).2.1 (tkN s (tkN s x.2.2.2.1 x.2.2.2.2).2.1 (tkN s x.2.2.2.1 x.2.2.2.2).2.2).2.2→if decide ((0:Int) < x_1.2.1)=true then if (!x_1.2.2.2.2)=true then (AtS s x_1.2.2.2.1/\List.length s<=(68719476736:Nat))/\(List.length x_1.2.2.1=List.length x_1.2.2.1/\(List.length x_1.2.2.1+List.length [(opF s x_1.2.2.2.1 x_1.2.2.2.2).1]) *(88:Nat)<=(140737488355328:Nat))/\inR IntKind.i64 (x_1.2.1 - (1:Int))/\∃(y:Nat × Int × List Opn × Int × Bool),(AtS s y.2.2.2.1/\y.2.1<=(9223372036854775807:Int)/\cH s y.2.2.2.1 y.2.2.2.2<=(↑y.1:Int)/\(↑(wOs y.2.2.1):Int)<=y.2.2.2.1+aQ y.2.2.2.2 (3:Int)
  /\fR s y.1 y.2.1 y.2.2.1 y.2.2.2.1 y.2.2.2.2=fR s (List.length s+(2:Nat)) (tkN s (tkN s x.2.2.2.1 x.2.2.2.2).2.1 (tkN s x.2.2.2.1 x.2.2.2.2).2.2).1 [] (tkN s (tkN s x.2.2.2.1 x.2.2.2.2).2.1 (tkN s x.2.2.2.1 x.2.2.2.2).2.2).2.1 (tkN s (tkN s x.2.2.2.1 x.2.2.2.2).2.1 (tkN s x.2.2.2.1 x.2.2.2.2).2.2).2.2)/\y.1 < x_1.1/\x_1.2.1 - (1:Int)=y.2.1/\x.2.1=x.2.1/\x.2.2.1=x.2.2.1/\s=s/\(0:Int)=(0:Int)/\true=true/\(tkN s x.2.2.2.1 x.2.2.2.2).1=(tkN s x.2.2.2.1 x.2.2.2.2).1/\x_1.2.2.1++[(opF s x_1.2.2.2.1 x_1.2.2.2.2).1]=y.2.2.1/\s=s/\(opF s x_1.2.2.2.1 x_1.2.2.2.2).2.1=y.2.2.2.1/\(opF s x_1.2.2.2.1 x_1.2.2.2.2).2.2=y.2.2.2.2/\List.length (x_1.2.2.1++[(opF s x_1.2.2.2.1 x_1.2.2.2.2).1])=List.length y.2.2.1/\List.length x.2.2.1=List.length x.2.2.1/\True else (List.length x.2.2.1=List.length x.2.2.1/\(List.length x.2.2.1+List.length [{args:=(tkN s x.2.2.2.1 x.2.2.2.2).1,ops:=x_1.2.2.1:Chnk}]) *(32:Nat)<=(140737488355328:Nat))/\inR IntKind.i64 (x.2.1 - (1:Int))/\∃(y:Nat × Int × List Chnk × Int × Bool),(AtS s y.2.2.2.1/\y.2.1<=(9223372036854775807:Int)/\cH s y.2.2.2.1 y.2.2.2.2<=(↑y.1:Int)/\(↑(wCs y.2.2.1):Int)<=y.2.2.2.1+aQ y.2.2.2.2 (4:Int)/\chL s y.1 y.2.1 y.2.2.1 y.2.2.2.1 y.2.2.2.2=jb s)/\y.1 < x.1/\x.2.1 - (1:Int)=y.2.1/\x.2.2.1++[{args:=(tkN s x.2.2.2.1 x.2.2.2.2).1,ops:=x_1.2.2.1:Chnk}]=y.2.2.1/\s=s/\(0:Int)=(0:Int)/\s=s/\x_1.2.2.2.1=y.2.2.2.1/\x_1.2.2.2.2=y.2.2.2.2/\List.length (x.2.2.1++[{args:=(tkN s x.2.2.2.1 x.2.2.2.2).1,ops:=x_1.2.2.1:Chnk}])=List.length y.2.2.1/\True else (List.length x.2.2.1=List.length x.2.2.1/\(List.length x.2.2.1+List.length [{args:=(tkN s x.2.2.2.1 x.2.2.2.2).1,ops:=x_1.2.2.1:Chnk}]) *(32:Nat)<=(140737488355328:Nat))/\inR IntKind.i64 (x.2.1 - (1:Int))/\∃(y:Nat × Int × List Chnk × Int × Bool),(AtS s y.2.2.2.1/\y.2.1<=(9223372036854775807:Int)/\cH s y.2.2.2.1 y.2.2.2.2<=(↑y.1:Int)/\(↑(wCs y.2.2.1):Int)<=y.2.2.2.1+aQ y.2.2.2.2 (4:Int)/\chL s y.1 y.2.1 y.2.2.1 y.2.2.2.1 y.2.2.2.2=jb s)/\y.1 < x.1/\x.2.1 - (1:Int)=y.2.1/\x.2.2.1++[{args:=(tkN s x.2.2.2.1 x.2.2.2.2).1,ops:=x_1.2.2.1:Chnk}]=y.2.2.1/\s=s/\(0:Int)=(0:Int)/\s=s/\x_1.2.2.2.1=y.2.2.2.1/\x_1.2.2.2.2=y.2.2.2.2/\List.length (x.2.2.1++[{args:=(tkN s x.2.2.2.1 x.2.2.2.2).1,ops:=x_1.2.2.1:Chnk}])=List.length y.2.2.1/\True else if x.2.2.2.2=true then True/\(bW s).1=[]/\(310:Int)=(bW s).2/\True else if (!decide (x.2.2.2.1=(↑(List.length s):Int)))=true then True/\(bW s).1=[]/\(310:Int)=(bW s).2/\True else gR x.2.2.1/\if (!decide ((dT x.2.2.1).2=(0:Int)))=true then True/\(bW s).1=[]/\(310:Int)=(bW s).2/\True else if (!decide ((dT x.2.2.1).1=s))=true then True/\(bW s).1=[]/\(310:Int)=(bW s).2/\True else True/\x.2.2.1=(bW s).1/\(0:Int)=(bW s).2/\True else if x.2.2.2.2=true then True/\(bW s).1=[]
  /\(310:Int)=(bW s).2/\True else if (!decide (x.2.2.2.1=(↑(List.length s):Int)))=true then True/\(bW s).1=[]/\(310:Int)=(bW s).2/\True else gR x.2.2.1/\if (!decide ((dT x.2.2.1).2=(0:Int)))=true then True/\(bW s).1=[]/\(310:Int)=(bW s).2/\True else if (!decide ((dT x.2.2.1).1=s))=true then True/\(bW s).1=[]/\(310:Int)=(bW s).2/\True else True/\x.2.2.1=(bW s).1/\(0:Int)=(bW s).2/\True:=by
 have h0:AtS s 0:=⟨Int.le_refl _,by omega⟩
 obtain ⟨a1,a2,a3,a4,a5⟩:=gP (b:=false) h0
 have hw:=xW s
 have fin:∀(l:List Chnk) (q:Int) (c:Bool),(l,q,c)=jb s→if c=true then True/\(bW s).1=[]/\(310:Int)=(bW s).2/\True else if (!decide (q=(s.length:Int)))=true then True/\(bW s).1=[]/\(310:Int)=(bW s).2/\True else
   gR l/\if (!decide ((dT l).2=(0:Int)))=true then True/\(bW s).1=[]/\(310:Int)=(bW s).2/\True else if (!decide ((dT l).1=s))=true then True/\(bW s).1=[]/\(310:Int)=(bW s).2/\True else True/\l=(bW s).1/\(0:Int)=(bW s).2/\True:=by
  intro l q c hq
  unfold bW
  rw [←hq] at hw ⊢
  refine aa (fun k=>?_) (fun k=>?_)
  ·rw [if_pos (.inl k)];exact ⟨trivial,rfl,rfl,trivial⟩
  refine aa (fun m=>?_) (fun m=>?_)
  ·have m:q≠(s.length:Int):=by simpa using m
   rw [if_pos (.inr m)];exact ⟨trivial,rfl,rfl,trivial⟩
  have m:q=(s.length:Int):=by simpa using m
  have n1:¬(c=true∨q≠(s.length:Int)):=fun z=>z.elim k (fun z=>z m)
  rw [if_neg n1]
  have hw:=hw (Bool.eq_false_iff.2 k)
  have he:=uW l
  refine ⟨by unfold gR;simp only at hw;omega,aa (fun n=>?_) (fun n=>?_)⟩
  ·have n:(dT l).2≠0:=by simpa using n
   rw [if_pos (.inl n)];exact ⟨trivial,rfl,rfl,trivial⟩
  have n:(dT l).2=0:=by simpa using n
  refine aa (fun r=>?_) (fun r=>?_)
  ·have r:(dT l).1≠s:=by simpa using r
   rw [if_pos (.inr r)];exact ⟨trivial,rfl,rfl,trivial⟩
  have r:(dT l).1=s:=by simpa using r
  rw [if_neg (fun z=>z.elim (fun z=>z n) (fun z=>z r))]
  exact ⟨trivial,rfl,rfl,trivial⟩
 refine ⟨⟨(s.length+2,(tkN s 0 false).1,[],(tkN s 0 false).2.1,(tkN s 0 false).2.2),⟨a3,a2,gQ a3,by have:=a3.1;simp only [wCs,List.map_nil,List.sum_nil];unfold aQ;split <;> omega,rfl⟩,by repeat' (first | exact trivial | rfl | apply And.intro)⟩,?_⟩
 rintro ⟨f,n,l,q,c⟩ ⟨i1,i2,i3,i4,i5⟩
 simp only at i1 i2 i3 i4 i5 ⊢
 cases f with
 | zero=>have:=fH (b:=c) i1;omega
 | succ f=>
 unfold chL at i5
 refine aa (fun r=>?_) (fun r=>?_)
 ·replace r:=Xo r
  refine aa (fun t=>?_) (fun t=>?_)
  ·have t:c=false:=by simpa using t
   subst t
   rw [if_pos ⟨r,rfl⟩] at i5
   have q1:tkN s q false=ch1 s q false:=rfl
   simp only [q1]
   have q2:tkN s (ch1 s q false).2.1 (ch1 s q false).2.2=ch2 s q false:=rfl
   simp only [q2]
   have q3:fR s (s.length+2) (ch2 s q false).1 [] (ch2 s q false).2.1 (ch2 s q false).2.2=ch3 s q false:=rfl
   simp only [q3]
   obtain ⟨b1,b2,b3⟩:=zP (b:=false) i1
   obtain ⟨d1,d2,d3,d4⟩:=zQ (b:=false) i1
   have e2:(ch2 s q false).1<=9223372036854775807:=(gP (gP (b:=false) i1).2.2.1).2.1
   have i6:=i1.2
   have hs:=eF i1 d1 (fun z=>(d3 z).2)
   simp only [aQ,Bool.false_eq_true,if_false] at i4
   have wl:=tS l
   have next:∀(ops:List Opn) (p':Int) (c':Bool),(ops,p',c')=ch3 s q false→((True)/\(l.length+([{args:=(ch1 s q false).1,ops:=ops}]:List Chnk).length) *32<=140737488355328)/\inR IntKind.i64 (n - 1)/\
     ∃(y:Nat × Int × List Chnk × Int × Bool),(AtS s y.2.2.2.1/\y.2.1<=9223372036854775807/\cH s y.2.2.2.1 y.2.2.2.2<=(y.1:Int)/\(wCs y.2.2.1:Int)<=y.2.2.2.1+aQ y.2.2.2.2 4/\chL s y.1 y.2.1 y.2.2.1 y.2.2.2.1 y.2.2.2.2=jb s)/\y.1 < f+1/\
      n - 1=y.2.1/\l++[{args:=(ch1 s q false).1,ops:=ops}]=y.2.2.1/\True/\True/\True/\p'=y.2.2.2.1/\c'=y.2.2.2.2/\(l++[({args:=(ch1 s q false).1,ops:=ops}:Chnk)]).length=y.2.2.1.length/\True:=by
    intro ops p' c' he
    have e1:ops=(ch3 s q false).1:=by rw [←he]
    have e3:p'=(ch3 s q false).2.1:=by rw [←he]
    have e4:c'=(ch3 s q false).2.2:=by rw [←he]
    subst e1 e3 e4
    refine ⟨⟨trivial,by simp only [List.length_singleton];omega⟩,aN (by omega) (by omega),(f,n - 1,l++[⟨(ch1 s q false).1,(ch3 s q false).1⟩],(ch3 s q false).2.1,(ch3 s q false).2.2),⟨d1,by simp only;omega,by simp only;omega,?_,i5⟩,by simp,by repeat' (first | exact trivial | rfl | apply And.intro)⟩
    simp only [uV]
    have ew:wCs [(⟨(ch1 s q false).1,(ch3 s q false).1⟩:Chnk)]=wC ⟨(ch1 s q false).1,(ch3 s q false).1⟩:=by simp [wCs]
    rw [ew]
    omega
   refine ⟨⟨(s.length+2,(ch2 s q false).1,[],(ch2 s q false).2.1,(ch2 s q false).2.2),⟨b1,e2,gQ b1,by have:=b1.1;simp only [wOs,List.map_nil,List.sum_nil];unfold aQ;split <;> omega,rfl⟩,by repeat' (first | exact trivial | rfl | apply And.intro)⟩,?_⟩
   rintro ⟨g,m,ops,p',c'⟩ ⟨j1,j2,j3,j4,j5⟩
   simp only at j1 j2 j3 j4 j5 ⊢
   cases g with
   | zero=>have:=fH (b:=c') j1;omega
   | succ g=>
   unfold fR at j5
   refine aa (fun u=>?_) (fun u=>?_)
   ·replace u:=Xo u
    refine aa (fun v=>?_) (fun v=>?_)
    ·have v:c'=false:=by simpa using v
     subst v
     rw [if_pos ⟨u,rfl⟩] at j5
     obtain ⟨k1,k2,k3,k4⟩:=zO (b:=false) j1
     have hs2:=eF j1 k1 (fun z=>(k3 z).2)
     have j6:=j1.2
     have wo:=tR ops
     simp only [aQ,Bool.false_eq_true,if_false] at j4
     refine ⟨⟨j1,ho⟩,⟨by trivial,by simp only [List.length_singleton];omega⟩,aN (by omega) (by omega),(g,m - 1,ops++[(opF s p' false).1],(opF s p' false).2.1,(opF s p' false).2.2),⟨k1,by simp only;omega,by simp only;omega,?_,j5⟩,by simp,by repeat' (first | exact trivial | rfl | apply And.intro)⟩
     simp only [uU]
     have ew:wOs [(opF s p' false).1]=wO (opF s p' false).1:=by simp [wOs]
     rw [ew]
     omega
    ·have v:c'=true:=by simpa using v
     rw [if_neg (fun z=>by rw [v] at z;cases z.2)] at j5
     exact next ops p' c' j5
   ·replace u:¬0 < m:=fun z=>u (Xd z)
    rw [if_neg (fun z=>u z.1)] at j5
    exact next ops p' c' j5
  ·have t:c=true:=by simpa using t
   rw [if_neg (fun z=>by rw [t] at z;cases z.2)] at i5
   exact fin l q c i5
 ·replace r:¬0 < n:=fun z=>r (Xd z)
  rw [if_neg (fun z=>r z.1)] at i5
  exact fin l q c i5
theorem oa (D:Str→List Chnk × Int) (E:List Chnk→Str × Int) (V:List Chnk→Int→Int) (s:Str) (h1:(D s).2≠0→D s=([],310)) (h2:s.length<=68719476736→(D s).2=0→gR (D s).1/\(E (D s).1).1=s/\(E (D s).1).2=0/\V (D s).1 1000=0) :
  if decide ((5000:Int) < (↑(List.length s):Int))=true then True/\true=true/\True else List.length s<=(68719476736:Nat)/\if (!decide ((D s).2=(0:Int)))=true then if decide ((↑(List.length (D s).1):Int)=(0:Int))=true then if decide ((D s).2=(310:Int))=true then True/\true=true/\True else True/\false=true/\True else True/\false=true/\True else gR (D s).1/\if decide ((E (D s).1).1=s)=true then if decide ((E (D s).1).2=(0:Int))=true then gR (D s).1/\if decide (V (D s).1 (1000:Int)=(0:Int))=true then True/\true=true/\True else True/\false=true/\True else True/\false=true/\True else True/\false=true/\True:=by
 refine aa (fun _=>⟨trivial,rfl,trivial⟩) (fun c=>?_)
 have c:¬(5000:Int) < (s.length:Int):=fun z=>c (Xd z)
 refine ⟨by omega,aa (fun a=>?_) (fun a=>?_)⟩
 ·have a:(D s).2≠0:=by simpa using a
  rw [h1 a]
  exact ⟨trivial,rfl,trivial⟩
 ·have a:(D s).2=0:=by simpa using a
  obtain ⟨f,e1,e2,e3⟩:=h2 (by omega) a
  refine ⟨f,aa (fun _=>aa (fun _=>⟨f,aa (fun _=>⟨trivial,rfl,trivial⟩) (fun z=>absurd (Xd e3) z)⟩) (fun z=>absurd (Xd e2) z)) (fun z=>absurd (Xd e1) z)⟩
end Go.AL.Seat
end
section
open Go Go.AL Go.Proofs Go.Shelf Go.Pd
namespace Go.AL.Seat
variable [Tabs]
def nn:Nat→Bool:=fun _=>false
def cf (k:Nat→Bool) (l:Nat→List (Option Nat)) (p r m:Nat→Bool) (s:Nat→List AV→List (Nat × SObj)→Option Ans):Cfg:=⟨tbl,s,k,l,p,r,m⟩
def a0:An:=⟨[],[],[]⟩
theorem g1 (k:Nat→Bool) (l:Nat→List (Option Nat)) (p r m:Nat→Bool) {s:Nat→List AV→List (Nat × SObj)→Option Ans} (hS:bz Tryz.prog s) (a:An) {f:Nat} {fn:Func} (hf:Tryz.prog.funcs[f]?=some fn)
  {args:List AV} {S:List (Nat × SObj)} {A:Ans} {Q:Prop} (q:Q) (h:fwp (cf k l p r m s) a fn args S A=Q:=by kernel_rfl):bl Tryz.prog f args S A:=xo (C:=cf k l p r m s) mixed zM hS hf q h
theorem g0 {s:Nat→List AV→List (Nat × SObj)→Option Ans} (hS:bz Tryz.prog s) (a:An) {f:Nat} {fn:Func} (hf:Tryz.prog.funcs[f]?=some fn)
  {args:List AV} {S:List (Nat × SObj)} {A:Ans} {Q:Prop} (q:Q) (h:fwp (cf nn (fun _=>[]) nn nn nn s) a fn args S A=Q:=by kernel_rfl):bl Tryz.prog f args S A:=xo (C:=cf nn (fun _=>[]) nn nn nn s) mixed zM hS hf q h
theorem sc {f:Nat} {g:Pat} {l:List (Nat × Pat)} (h:aD Tryz.prog f g) (hl:bz Tryz.prog (fb l)):bz Tryz.prog (fb ((f,g) ::l)):=tx h hl
theorem sn:bz Tryz.prog (fb []):=vM
theorem ee {f:Nat} {fn:Func} (h:Tryz.prog.funcs[f]?=some fn) (e:(fn.body.isNone || (fn.name == "runtime.NumGoroutine"))=false:=by kernel_rfl):b6 Tryz.prog f:=b6.mk' h e
variable [SeatLaid]
theorem lg:aD Tryz.prog 102 (p1 (.int .u8) fun c=>.ret (.bool (bV c))):=
 de (ee Tryz.func102) fun c _ _=>g0 sn a0 Tryz.func102 (ye c)
theorem lh:aD Tryz.prog 103 (p1 (.int .u8) fun c=>.ret (.bool (ck c))):=
 de (ee Tryz.func103) fun c _ _=>g0 sn a0 Tryz.func103 (yf c)
theorem wk:aD Tryz.prog 106 (p1 (.int .u8) fun c=>.ret (.bool (j9 c))):=
 de (ee Tryz.func106) fun c _ _=>g0 sn a0 Tryz.func106 (yg c)
theorem s9:aD Tryz.prog 104 (p1 (.int .u8) fun c=>.ret (.bool (dP c))):=
 de (ee Tryz.func104) fun c _ _=>g0 (sc lg (sc lh (sc wk sn))) a0 Tryz.func104 (zu c)
theorem u6:aD Tryz.prog 139 (pf .str 102 fun s=>.ret (.bool (bH bV s))):=
 zJ (ee Tryz.func139) fun s hs _=>g0 (sc lg (sc lh (sc s9 sn))) ⟨[(4,fun S0=>⟨Nat,fun k=>k<=s.length/\bH bV s=(s.drop k).all fun c=>dP (bI c),fun k=>[(22,.int .i64 k)],fun _=>[],fun k=>s.length - k⟩)],[],[]⟩ Tryz.func139 (wa s hs)
theorem u7:aD Tryz.prog 139 (pf .str 103 fun s=>.ret (.bool (bH ck s))):=
 zJ (ee Tryz.func139) fun s hs _=>g0 (sc lg (sc lh (sc s9 sn))) ⟨[(4,fun S0=>⟨Nat,fun k=>k<=s.length/\bH ck s=(s.drop k).all fun c=>dP (bI c),fun k=>[(22,.int .i64 k)],fun _=>[],fun k=>s.length - k⟩)],[],[]⟩ Tryz.func139 (wb s hs)
theorem yp:aD Tryz.prog 105 (p1 .str fun s=>.ret (.bool (cG s))):=
 de (ee Tryz.func105) fun s _ _=>g0 sn a0 Tryz.func105 (zw s)
theorem oc:aD Tryz.prog 96 (p1 .str fun s=>.ret (.bool (cQ s))):=
 de (ee Tryz.func96) fun s _ _=>g0 (sc u6 (sc yp sn)) a0 Tryz.func96 (zx s)
theorem po:aD Tryz.prog 97 (p1 .str fun s=>.ret (.bool (gl s))):=
 de (ee Tryz.func97) fun s _ _=>g0 (sc u7 sn) a0 Tryz.func97 (yh s)
theorem ua:aD Tryz.prog 141 (p1 (.lst .str) fun a=>⟨none,none,.fn 181 [.ptr 1 0],[(1,.box (.lst .str a none))]⟩):=
 de (ee Tryz.func141) fun a _ _=>g0 sn a0 Tryz.func141 (wc a)
theorem od:aD Tryz.prog 60 (p1 (.int .u64) fun n=>.ret (.int .i64 (aM n))):=
 de (ee Tryz.func60) fun n _ _=>g0 (sc (w9) sn) a0 Tryz.func60 (we n)
theorem jc:aD Tryz.prog 28 (p1 (.int .u64) fun n=>.ret (.str (eE n))):=
 de (ee Tryz.func28) fun n _ _=>g1 nn (fun _=>[]) nn (fun d=>Nat.beq d 9 || Nat.beq d 18 || Nat.beq d 32 || Nat.beq d 5014) nn (sc od sn) ⟨[(7,fun S0=>⟨Nat,fun j=>(j:Int)<=aM n,fun j=>[(5,.int .i64 (aM n - 1 - j)),(4,.glst (1+j) (gO n j).length 14)],fun j=>[(14,.grow (.int .u8) (1+j) (gO n j))],fun j=>(aM n).toNat - j⟩)],[],[]⟩ Tryz.func28 (tW n)
theorem pq:aD Tryz.prog 29 (p1 .str fun s=>⟨some (s.length<=140737488355328),none,.str (bR s),[]⟩):=
 de (ee Tryz.func29) fun s _ ho=>g0 (sc jc sn) a0 Tryz.func29 (yi s (ho _ rfl))
theorem wm:aD Tryz.prog 30 (p1 (.lst .str) fun l=>⟨some ((fc l).length<=140737488355328),none,.str (fc l),[]⟩):=
 de (ee Tryz.func30) fun l hl ho=>g0 (sc jc (sc pq (sc (w8) (sc (tQ) sn)))) ⟨[(4,fun S0=>⟨Nat,fun k=>k<=l.length,fun k=>[(13,.int .i64 k)],fun k=>[(3,.bld 127 5 (eE l.length++(l.take k).flatMap bR))],fun k=>l.length - k⟩)],[],[]⟩ Tryz.func30 (yj l hl (ho _ rfl))
theorem wq:aD Tryz.prog 95 (Am):=
 ze (ee Tryz.func95) fun s p b ho=>g0 sn a0 Tryz.func95 (yk s p b ho)
theorem lj:aD Tryz.prog 65 (p2 .str (.int .i64) fun s p=>.ret (.tup [.int .u64 (aq s p).1,.int .i64 (aq s p).2.1,.int .i64 (aq s p).2.2])):=
 jD (ee Tryz.func65) fun s p hs _ _=>g0 (sc wq (sc od sn)) ⟨[(10,fun S0=>⟨Nat,fun k=>(k:Int)<=bD (ae s p).1,fun k=>[(32,.int .i64 k),(10,.int .u64 (bJ s k (bA (ae s p).1,(ae s p).2.1,(ae s p).2.2)).1)],fun k=>[(3,.box (.int .i64 (bJ s k (bA (ae s p).1,(ae s p).2.1,(ae s p).2.2)).2.1)),(7,.box (.bool (bJ s k (bA (ae s p).1,(ae s p).2.1,(ae s p).2.2)).2.2))],fun k=>(bD (ae s p).1).toNat - k⟩)],[],[(100009,fun S0=>⟨[(10,.int .u64 (bA (ae s p).1)),(11,.int .i64 (bD (ae s p).1))],[]⟩)]⟩ Tryz.func65 (yl s p hs)
theorem oe:aD Tryz.prog 66 (p2 .str (.int .i64) fun s p=>.ret (.tup [.str (aC s p).1,.int .i64 (aC s p).2.1,.int .i64 (aC s p).2.2])):=
 jD (ee Tryz.func66) fun s p hs _ _=>g0 (sc lj sn) a0 Tryz.func66 (wg s p hs)
theorem ub:aD Tryz.prog 67 (p2 .str (.int .i64) fun s p=>⟨some (s.length<=1099511627776),none,.tup [.lst .str (aV s p).1 none,.int .i64 (aV s p).2.1,.int .i64 (aV s p).2.2],[]⟩):=
 jD (ee Tryz.func67) fun s p hs _ ho=>g0 (sc lj (sc oe sn)) ⟨[(5,fun S0=>⟨Nat × Int × List Str × Int,fun x=>AtS s x.2.2.2/\(s.length:Int)+1<=x.1+x.2.2.2/\InU x.2.1/\(wL x.2.2.1:Int)<=x.2.2.2/\dt s x.1 x.2.1 x.2.2.1 x.2.2.2=aV s p,fun x=>[(7,.int .u64 x.2.1),(9,.lst .str x.2.2.1 (some 701)),(1,.int .i64 x.2.2.2)],fun x=>[(701,.tail .str x.2.2.1.length)],fun x=>x.1⟩)],[],[]⟩ Tryz.func67 (wh s p hs (ho _ rfl))
theorem uc:aD Tryz.prog 98 (p1 (.lst .str) fun l=>⟨some (l.length *16<=140737488355328),none,.bool (fP l),[]⟩):=
 de (ee Tryz.func98) fun l _ ho=>g0 (sc ua (sc (tF) (sc oc (sc (rM) sn)))) ⟨[(2,fun S0=>⟨Nat,fun k=>k<=l.length/\l.all cQ=(l.drop k).all cQ,fun k=>[(8,.int .i64 k)],fun _=>[],fun k=>l.length - k⟩)],[],[]⟩ Tryz.func98 (wi l (ho _ rfl))
theorem sa:aD Tryz.prog 73 (p1 (.st .op) fun o=>⟨some (o.names.length *16<=140737488355328),none,.bool (ab o),[]⟩):=
 de (ee Tryz.func73) fun o _ ho=>g0 (sc oc (sc po (sc uc sn))) ⟨[],[],[(100012,fun S0=>⟨[(9,.bool (is8 o.kind))],[]⟩),(100021,fun S0=>⟨[(38,.bool (isB o.kind))],[]⟩),(100024,fun S0=>⟨[(44,.bool (isU o.kind))],[]⟩),(100027,fun S0=>⟨[(50,.bool (isR o.kind))],[]⟩),(100032,fun S0=>⟨[(6,.int .i64 (toN o))],[]⟩)]⟩ Tryz.func73 (tX o (ho _ rfl))
theorem wu:aD Tryz.prog 72 (p1 (.st .op) fun o=>.ret (.tup [.int .i64 (ag o).1,.int .i64 (ag o).2])):=
 de (ee Tryz.func72) fun o _ _=>g1 nn (fun _=>[]) nn (fun d=>Nat.beq d 17) nn sn ⟨[],[],[(100008,fun S0=>⟨[(6,.bool (is6 o.kind))],[]⟩),(100019,fun S0=>⟨[(27,.bool (is4 o.kind))],[]⟩),(100026,fun S0=>⟨[(38,.bool (is2 o.kind))],[]⟩)]⟩ Tryz.func72 (ym o)
theorem wv:aD Tryz.prog 71 (y7):=
 y8 (ee Tryz.func71) fun l n tgt s ho=>g0 sn a0 Tryz.func71 (yn l n tgt s ho)
theorem ud:aD Tryz.prog 39 (Ap):=
 zm (ee Tryz.func39) fun code k bs n ho=>g1 nn (fun _=>[]) nn (fun d=>Nat.beq d 87 || Nat.beq d 88 || Nat.beq d 126 || Nat.beq d 162 || Nat.beq d 172 || Nat.beq d 178 || Nat.beq d 229) nn (sc wv (sc wu (sc sa sn))) ⟨[(5,fun S0=>⟨Nat,fun j=>j<=aA code k+1,fun j=>[(40,.int .i64 j)],fun j=>[(37,.box (.row (.st .stt) (cE (aA code k+1) j)))],fun j=>aA code k+1 - j⟩),(13,fun S0=>⟨Nat × List Stt × List Stt,fun x=>x.1<=aA code k/\x.2.1.length=aA code k+1/\x.2.2.length=code.length/\iy code k (bs.getD k.toNat default) (aA code k) ((aL code k).ops.drop x.1) x.1 x.2.1 x.2.2=aE code k bs,fun x=>[(55,.int .i64 x.1)],fun x=>[(37,.box (.row (.st .stt) x.2.1)),(901,.box (.row (.st .stt) x.2.2))],fun x=>aA code k - x.1⟩),(46,fun S0=>qK S0 55 fun i0=>zn S0 37 12 fun l0 s0=>⟨Nat × List Stt,fun x=>x.1<=((aL code k).ops.getD i0.toNat default).tos.length/\x.2.length=aA code k+1/\iu i0 (aA code k) s0 (((aL code k).ops.getD i0.toNat default).tos.drop x.1) x.2=iu i0 (aA code k) s0 ((aL code k).ops.getD i0.toNat default).tos l0,fun x=>[(234,.int .i64 x.1)],fun x=>[(37,.box (.row (.st .stt) x.2))],fun x=>((aL code k).ops.getD i0.toNat default).tos.length - x.1⟩)],[],[(100051,fun S0=>Aq S0 fun i l b=>([(15,.bool (gF code k (bs.getD k.toNat default) (aA code k) i ((aL code k).ops.getD i.toNat default) l b)),(10,.int .i64 i)],[(12,.box (.st .stt (sF (aA code k) i ((aL code k).ops.getD i.toNat default) l))),(37,.box (.row (.st .stt) (lF (aA code k) i ((aL code k).ops.getD i.toNat default) l))),(901,.box (.row (.st .stt) (bF code k (bs.getD k.toNat default) (aA code k) i ((aL code k).ops.getD i.toNat default) l b)))]))]⟩ Tryz.func39 (wj code k bs n ho)
theorem jd:aD Tryz.prog 19 (p2 (.lst (.st .chunk)) (.int .i64) fun l n=>⟨some (gR l),none,.int .i64 (fq l n),[]⟩):=
 jD (ee Tryz.func19) fun l n hl _ ho=>g0 (sc ud sn) ⟨[(6,fun S0=>⟨Nat × Int,fun x=>x.1<=l.length/\0<=x.2/\x.2<=4096/\fe (l.drop x.1) x.2=fe l 0/\∀j:Nat,j < x.1→(l.getD j default).ops.length<=4096,fun x=>[(36,.int .i64 x.1),(5,.int .i64 x.2)],fun _=>[],fun x=>l.length - x.1⟩),(14,fun S0=>⟨Nat,fun k=>k<=l.length,fun k=>[(73,.int .i64 k)],fun k=>[(65,.box (.row (.st .stt) (cE l.length k)))],fun k=>l.length - k⟩),(20,fun S0=>⟨Nat × List Stt,fun x=>x.1<=l.length/\x.2.length=l.length/\lf l (l.length - x.1) x.1 x.2=lf l l.length 0 (bg0 l.length n),fun x=>[(93,.int .i64 x.1)],fun x=>[(65,.box (.row (.st .stt) x.2))],fun x=>l.length - x.1⟩)],[],[]⟩ Tryz.func19 (tY l n hl (ho _ rfl))
theorem sb:aD Tryz.prog 35 (zp tkA):=
 uZ (ee Tryz.func35) fun s p b _=>g0 (sc lj sn) a0 Tryz.func35 (zy s p b)
theorem zA:aD Tryz.prog 36 (zp opA):=
 uZ (ee Tryz.func36) fun s p b ho=>g0 (sc sb (sc oe (sc ub sn))) ⟨[(12,fun S0=>⟨Nat × Int × List Int × Int × Bool,fun x=>AtS s x.2.2.2.1/\x.2.1<=9223372036854775807/\cH s x.2.2.2.1 x.2.2.2.2<=x.1/\(x.2.2.1.length:Int)<=x.2.2.2.1+aQ x.2.2.2.2 1/\toL s x.1 x.2.1 x.2.2.1 x.2.2.2.1 x.2.2.2.2=op6 s p b,fun x=>[(8,.int .i64 x.2.1)],fun x=>[(3,.box (.agg [.int .i64 (op1 s p b).1,.int .i64 (op2 s p b).1,.str (op3 s p b).1,.lst .str (op4 s p b).1 none,.lst (.int .i64) x.2.2.1 (some 701),.int .i64 0])),(900,.box (.agg [.str s,.int .i64 x.2.2.2.1,.bool x.2.2.2.2])),(701,.tail (.int .i64) x.2.2.1.length)],fun x=>x.1⟩)],[],[]⟩ Tryz.func36 (As s p b (ho _ rfl))
theorem wx:aD Tryz.prog 27 (p1 (.int .i64) fun n=>.ret (.str (bU n))):=
 de (ee Tryz.func27) fun n _ _=>g1 nn (fun _=>[]) nn (fun d=>Nat.beq d 4) nn (sc jc sn) a0 Tryz.func27 (yo n)
theorem je:aD Tryz.prog 15 (p1 (.lst (.st .chunk)) fun l=>⟨some (gR l),none,.tup [.str (dT l).1,.int .i64 (dT l).2],[]⟩):=
 de (ee Tryz.func15) fun l hl ho=>g0 (sc (jd) (sc wx (sc pq (sc wm sn)))) ⟨[(6,fun S0=>⟨Nat,fun k=>k<=l.length,fun k=>[(21,.int .i64 k),(5,.str (prC l k))],fun k=>[],fun k=>l.length - k⟩),(10,fun S0=>qK S0 21 fun k0=>⟨Nat,fun j=>j<=(l.getD k0.toNat default).ops.length,fun j=>[(40,.int .i64 j),(5,.str (prC l k0.toNat++prO (l.getD k0.toNat default) j))],fun _=>[],fun j=>(l.getD k0.toNat default).ops.length - j⟩),(14,fun S0=>qK S0 21 fun k0=>qK S0 40 fun j0=>⟨Nat,fun i=>i<=((l.getD k0.toNat default).ops.getD j0.toNat default).tos.length,fun i=>[(72,.int .i64 i),(5,.str (prC l k0.toNat++prO (l.getD k0.toNat default) j0.toNat++prT ((l.getD k0.toNat default).ops.getD j0.toNat default) i))],fun _=>[],fun i=>((l.getD k0.toNat default).ops.getD j0.toNat default).tos.length - i⟩)],[],[]⟩ Tryz.func15 (tZ l hl (ho _ rfl))
theorem lN:aD Tryz.prog 17 (p1 .str fun s=>⟨some (s.length<=68719476736),none,.tup [.lst (.st .chunk) (bW s).1 none,.int .i64 (bW s).2],[]⟩):=
 de (ee Tryz.func17) fun s _ ho=>g0 (sc sb (sc zA (sc je sn))) ⟨[(4,fun S0=>⟨Nat × Int × List Chnk × Int × Bool,fun x=>AtS s x.2.2.2.1/\x.2.1<=9223372036854775807/\cH s x.2.2.2.1 x.2.2.2.2<=x.1/\(wCs x.2.2.1:Int)<=x.2.2.2.1+aQ x.2.2.2.2 4/\chL s x.1 x.2.1 x.2.2.1 x.2.2.2.1 x.2.2.2.2=jb s,fun x=>[(6,.int .i64 x.2.1),(5,.lst (.st .chunk) x.2.2.1 (some 702))],fun x=>[(13,.box (.agg [.str s,.int .i64 x.2.2.2.1,.bool x.2.2.2.2])),(702,.tail (.st .chunk) x.2.2.1.length)],fun x=>x.1⟩),(8,fun S0=>zq S0 13 fun p0 b0=>qK S0 8 fun k0=>zr S0 7 fun a0=>⟨Nat × Int × List Opn × Int × Bool,fun x=>AtS s x.2.2.2.1/\x.2.1<=9223372036854775807/\cH s x.2.2.2.1 x.2.2.2.2<=x.1/\(wOs x.2.2.1:Int)<=x.2.2.2.1+aQ x.2.2.2.2 3/\fR s x.1 x.2.1 x.2.2.1 x.2.2.2.1 x.2.2.2.2=fR s (s.length+2) k0 [] p0 b0,fun x=>[(8,.int .i64 x.2.1)],fun x=>[(7,.box (.agg [.int .i64 a0,.lst (.st .op) x.2.2.1 (some 701)])),(13,.box (.agg [.str s,.int .i64 x.2.2.2.1,.bool x.2.2.2.2])),(701,.tail (.st .op) x.2.2.1.length)],fun x=>x.1⟩)],[],[]⟩ Tryz.func17 (u4 s (ho _ rfl))
theorem kA (D:Str→List Chnk × Int) (E:List Chnk→Str × Int) (V:List Chnk→Int→Int) (s:Str) (h1:(D s).2≠0→D s=([],310)) (h2:s.length<=68719476736→(D s).2=0→gR (D s).1/\(E (D s).1).1=s/\(E (D s).1).2=0/\V (D s).1 1000=0) (hD:aD Tryz.prog 17 (p1 .str fun s=>⟨some (s.length<=68719476736),none,.tup [.lst (.st .chunk) (D s).1 none,.int .i64 (D s).2],[]⟩)) (hE:aD Tryz.prog 15 (p1 (.lst (.st .chunk)) fun l=>⟨some (gR l),none,.tup [.str (E l).1,.int .i64 (E l).2],[]⟩)) (hV:aD Tryz.prog 19 (p2 (.lst (.st .chunk)) (.int .i64) fun l n=>⟨some (gR l),none,.int .i64 (V l n),[]⟩)) (hW:aD Tryz.prog 10 (p0 (.ret (.bool true)))):bl Tryz.prog 6 [.str s] [] (.ret (.bool true)):=
 g0 (sc (hW) (sc (hD) (sc (hE) (sc (hV) sn)))) a0 Tryz.func6 (oa D E V s h1 h2)
end Go.AL.Seat
end
noncomputable section
namespace Go.AL.Seat
open Go Go.AL Go.Proofs Go.Shelf Go.Pd
variable [Tabs]
def Au (t:Str):Bool:=!t.isEmpty && decide (t.length<=15) && t.all fun c=>decide (48<=c.toNat) && decide (c.toNat<=57)
theorem zB {t:Str} (h:Au t=true):pa t:=by
 unfold Au at h
 simp only [Bool.and_eq_true,Bool.not_eq_true',decide_eq_true_eq,List.all_eq_true] at h
 exact ⟨fun e=>(by rw [e] at h;exact absurd h.1.1 (by decide)),h.1.2,h.2⟩
def pr:List (Nat × Pat):=
 [(143,p1 .str fun s=>.ret (.tup [.int .i32 ((ix s).1:Int),.int .i64 ((ix s).2:Int)])),
  (156,p2 .str (.int .u8) fun a c=>.ret (.int .i64 (xx a c))),
  (108,q2 .str .str (fun _ b=>decide (b=nQ)) fun a _=>.str (nR a)),
  (151,q2 .str .str (fun a b=>decide (b=[45]) && decide (a.length < 4294967281)) fun a _=>.tup [.str (gm a),.str (jT a),.bool (l6 a)]),
  (152,q2 .str .str (fun a b=>decide (b=[46]) && decide (a.length < 4294967281)) fun a _=>.lst .str (splitB 46 a) none),
  (158,q2 .str .str (fun _ b=>decide (b.length=1)) fun a b=>.bool (decide (b.getD 0 0∈a))),
  (154,q1 .str Au fun t=>.tup [.int .i64 (jF t),.nilif]),
  (96,p1 .str fun s=>.ret (.bool (cQ s))),(97,p1 .str fun s=>.ret (.bool (gl s)))]
theorem og [SeatLaid]:bz Tryz.prog (fb pr):=
 sc nW (sc oK (sc (pg xE fun _ _ h=>Xo h)
  (sc (pg z6 fun _ _ h=>by rw [Bool.and_eq_true] at h;exact ⟨Xo h.1,Xo h.2⟩)
  (sc (pg vV fun _ _ h=>by rw [Bool.and_eq_true] at h;exact ⟨Xo h.1,Xo h.2⟩)
  (sc (pg qw fun _ _ h=>Xo h) (sc (xS xD fun _ h=>zB h)
  (sc oc (sc po sn))))))))
end Go.AL.Seat
end
noncomputable section
namespace Go.AL.Seat
open Go Go.AL Go.Proofs
variable [Tabs]
def an:List (Nat × TR):=[(3,r2),(9,r9),(26,⟨.strct false [(0,3),(1,9),(2,9),(3,3),(4,22),(5,22),(6,23),(7,24),(8,3)],9,152,[.int .i64 0,.str [],.str [],.int .i64 0,.nils,.nils,.nils,.nils,.int .i64 0],some (.st .term)⟩),(49,⟨.strct false [(0,3),(1,9),(2,9),(3,22),(4,23)],5,88,[.int .i64 0,.str [],.str [],.nils,.nils],some (.st .shape)⟩),(168,⟨.strct false [(0,166)],4,48,[.nils,.int .i64 0,.int .i64 0,.int .i64 0],some (.st .par)⟩),(22,⟨.slice 9,1,24,[.nils],some (.lst .str)⟩),(163,⟨.ptr 168,1,8,[.nilp],none⟩),(5,r5),(200,vZ),(162,⟨.strct true [(0,3),(1,9),(2,3)],3,32,[.int .i64 0,.str [],.int .i64 0],some (.st .token)⟩),(60,⟨.strct false [(0,3),(1,3),(2,9),(3,22),(4,58),(5,3)],6,88,[.int .i64 0,.int .i64 0,.str [],.nils,.nils,.int .i64 0],some (.st .op)⟩),(24,⟨.slice 26,1,24,[.nils],some (.lst (.st .term))⟩),(23,⟨.slice 49,1,24,[.nils],some (.lst (.st .shape))⟩),(55,⟨.strct true [(0,32),(1,3)],2,16,[.int .i64 0,.int .i64 0],some (.st .fault)⟩),(71,r70),(61,⟨.slice 60,1,24,[.nils],some (.lst (.st .op))⟩),(156,zd),(4,⟨.bool,1,1,[.bool false],some .bool⟩),(154,zc),(69,⟨.slice 73,1,24,[.nils],some (.lst (.st .nm))⟩),(32,r2),(166,⟨.strct false [(0,102),(1,3),(2,55)],4,48,[.nils,.int .i64 0,.int .i64 0,.int .i64 0],some (.st .par)⟩),(58,⟨.slice 3,1,24,[.nils],some (.lst (.int .i64))⟩),(31,⟨.slice 63,1,24,[.nils],some (.lst (.st .chunk))⟩),(102,⟨.slice 162,1,24,[.nils],some (.lst (.st .token))⟩),(189,⟨.strct true [(0,3),(1,3),(2,3),(3,9)],4,40,[.int .i64 0,.int .i64 0,.int .i64 0,.str []],some (.st .version)⟩),(152,⟨.ptr 156,1,8,[.nilp],none⟩),(63,⟨.strct false [(0,3),(1,61)],2,32,[.int .i64 0,.nils],some (.st .chunk)⟩),(68,r67),(1,r1),(73,⟨.strct true [(0,9),(1,9)],2,32,[.str [],.str []],some (.st .nm)⟩),(122,⟨.slice 5,1,24,[.nils],some (.lst (.int .u8))⟩),(195,r1),(51,⟨.strct false [(0,9),(1,9),(2,49)],7,120,[.str [],.str [],.int .i64 0,.str [],.str [],.nils,.nils],some (.st .bind)⟩),(66,⟨.ptr 31,1,8,[.nilp],none⟩),(227,⟨.arr 3 3,3,24,[.int .i64 0,.int .i64 0,.int .i64 0],none⟩),(21,r21),(268,w4),(27,⟨.slice 51,1,24,[.nils],some (.lst (.st .bind))⟩),(110,r1),(203,r1),(46,r1),(20,r20),(267,w4),(199,vZ),(48,⟨.strct false [(0,3),(1,9),(2,9),(3,22),(4,23)],5,88,[.int .i64 0,.str [],.str [],.nils,.nils],none⟩),(188,⟨.strct true [(0,3),(1,3),(2,3),(3,9)],4,40,[.int .i64 0,.int .i64 0,.int .i64 0,.str []],none⟩),(165,⟨.strct false [(0,102),(1,3),(2,55)],4,48,[.nils,.int .i64 0,.int .i64 0,.int .i64 0],none⟩),(167,⟨.strct false [(0,166)],4,48,[.nils,.int .i64 0,.int .i64 0,.int .i64 0],none⟩),(161,⟨.strct true [(0,3),(1,9),(2,3)],3,32,[.int .i64 0,.str [],.int .i64 0],none⟩),(155,zd),(153,zc),(59,⟨.strct false [(0,3),(1,3),(2,9),(3,22),(4,58),(5,3)],6,88,[.int .i64 0,.int .i64 0,.str [],.nils,.nils,.int .i64 0],none⟩),(67,r67),(72,⟨.strct true [(0,9),(1,9)],2,32,[.str [],.str []],none⟩),(50,⟨.strct false [(0,9),(1,9),(2,49)],7,120,[.str [],.str [],.int .i64 0,.str [],.str [],.nils,.nils],none⟩),(70,r70),(62,⟨.strct false [(0,3),(1,61)],2,32,[.int .i64 0,.nils],none⟩),(54,⟨.strct true [(0,32),(1,3)],2,16,[.int .i64 0,.int .i64 0],none⟩),(25,⟨.strct false [(0,3),(1,9),(2,9),(3,3),(4,22),(5,22),(6,23),(7,24),(8,3)],9,152,[.int .i64 0,.str [],.str [],.int .i64 0,.nils,.nils,.nils,.nils,.int .i64 0],none⟩)]
theorem sd:aI Tryz.prog an:=.cons tk (.cons tk (.cons tk (.cons tk (.cons tk (.cons tk (.cons tk (.cons tk (.cons tk (.cons tk (.cons tk (.cons tk (.cons tk (.cons tk (.cons tk (.cons tk (.cons tk (.cons tk (.cons tk (.cons tk (.cons tk (.cons tk (.cons tk (.cons tk (.cons tk (.cons tk (.cons tk (.cons tk (.cons tk (.cons tk (.cons tk (.cons tk (.cons tk (.cons tk (.cons tk (.cons tk (.cons tk (.cons tk (.cons tk (.cons tk (.cons tk (.cons tk (.cons tk (.cons tk (.cons tk (.cons tk (.cons tk (.cons tk (.cons tk (.cons tk (.cons tk (.cons tk (.cons tk (.cons tk (.cons tk (.cons tk (.cons tk (.cons tk (.cons tk (.cons tk (.nil))))))))))))))))))))))))))))))))))))))))))))))))))))))))))))
end Go.AL.Seat
end
noncomputable section
namespace Go.AL.Seat
open Go Go.AL Go.Proofs
set_option maxRecDepth 1000000
variable [Tabs]
def yq (f:Nat):List (Option Nat):=if Nat.beq f 74 || Nat.beq f 75 then [some 2] else []
def yr (f:Nat):Bool:=false
def oh:List (Nat × FB):=(21,ar an Tryz.f21 4362109181 [] (fun _=>false) (fun _=>false) (fun _=>false) false) ::(11,ar an Tryz.f11 15746551 [] (fun _=>false) (fun _=>false) (fun _=>false) false) ::(13,ar an Tryz.f13 2361185502030729349235 [] (fun _=>false) (fun _=>false) (fun d=>Nat.beq d 70) false) ::(40,ar an Tryz.f40 77975715369647181664879229 [] (fun _=>false) (fun _=>false) (fun _=>false) false) ::(41,ar an Tryz.f41 9016029707634675 [] (fun _=>false) (fun _=>false) (fun _=>false) false) ::(42,ar an Tryz.f42 531 [] (fun _=>false) (fun _=>false) (fun _=>false) false) ::(22,ar an Tryz.f22 74783 [] (fun _=>false) (fun _=>false) (fun _=>false) false) ::(23,ar an Tryz.f23 686032242260302265618932259388129843 [] (fun _=>false) (fun _=>false) (fun d=>Nat.beq d 27 || Nat.beq d 43 || Nat.beq d 59 || Nat.beq d 71 || Nat.beq d 83 || Nat.beq d 91 || Nat.beq d 93 || Nat.beq d 101 || Nat.beq d 108 || Nat.beq d 137 || Nat.beq d 148 || Nat.beq d 158) false) ::(26,ar an Tryz.f26 288266660035428415 [] (fun _=>false) (fun _=>false) (fun _=>false) false) ::(74,ar an Tryz.f74 65555 [] (fun _=>false) (fun _=>false) (fun _=>false) false) ::(75,ar an Tryz.f75 4294967347 [] (fun _=>false) (fun _=>false) (fun _=>false) false) ::(76,ar an Tryz.f76 5 [] (fun _=>false) (fun _=>false) (fun _=>false) false) ::(77,ar an Tryz.f77 8388935 [] (fun _=>false) (fun _=>false) (fun _=>false) false) ::(78,ar an Tryz.f78 87112288527988523651034566703108870643455 [] (fun _=>false) (fun _=>false) (fun d=>Nat.beq d 21) false) ::(79,ar an Tryz.f79 33816627 [] (fun _=>false) (fun _=>false) (fun _=>false) false) ::(80,ar an Tryz.f80 5 [] (fun _=>false) (fun _=>false) (fun _=>false) false) ::(81,ar an Tryz.f81 268439557 [] (fun _=>false) (fun _=>false) (fun _=>false) false) ::(82,ar an Tryz.f82 81129648086015544455969055506495 [] (fun _=>false) (fun _=>false) (fun _=>false) false) ::(83,ar an Tryz.f83 263 [] (fun _=>false) (fun _=>false) (fun _=>false) false) ::(43,ar an Tryz.f43 2223863 [] (fun _=>false) (fun _=>false) (fun _=>false) false) ::(44,ar an Tryz.f44 7 [] (fun _=>false) (fun _=>false) (fun _=>false) false) ::(45,ar an Tryz.f45 19 [] (fun _=>false) (fun _=>false) (fun _=>false) false) ::(46,ar an Tryz.f46 4294975539 [] (fun _=>false) (fun _=>false) (fun _=>false) false) ::(47,ar an Tryz.f47 8444249301320051 [] (fun _=>false) (fun _=>false) (fun d=>Nat.beq d 39) false) ::(48,ar an Tryz.f48 51 [] (fun _=>false) (fun _=>false) (fun d=>Nat.beq d 22 || Nat.beq d 39 || Nat.beq d 49 || Nat.beq d 68) false) ::(49,ar an Tryz.f49 37138201178561408728010064627 [] (fun _=>false) (fun _=>false) (fun d=>Nat.beq d 24 || Nat.beq d 31 || Nat.beq d 62 || Nat.beq d 78 || Nat.beq d 106) false) ::(50,ar an Tryz.f50 7 [] (fun _=>false) (fun _=>false) (fun _=>false) false) ::(51,ar an Tryz.f51 467 [] (fun _=>false) (fun _=>false) (fun _=>false) false) ::(52,ar an Tryz.f52 302379064902644767129997 [] (fun _=>false) (fun _=>false) (fun d=>Nat.beq d 27) false) ::(59,ar an Tryz.f59 33571891 [] (fun _=>false) (fun _=>false) (fun _=>false) false) ::(99,ar an Tryz.f99 549890048253 [] (fun _=>false) (fun _=>false) (fun _=>false) false) ::(100,ar an Tryz.f100 71 [] (fun _=>false) (fun _=>false) (fun _=>false) false) ::(101,ar an Tryz.f101 79 [] (fun _=>false) (fun _=>false) (fun _=>false) false) ::(102,ar an Tryz.f102 5 [] (fun _=>false) (fun _=>false) (fun _=>false) false) ::(103,ar an Tryz.f103 5 [] (fun _=>false) (fun _=>false) (fun _=>false) false) ::(104,ar an Tryz.f104 5 [] (fun _=>false) (fun _=>false) (fun _=>false) false) ::(105,ar an Tryz.f105 29 [] (fun _=>false) (fun _=>false) (fun _=>false) false) ::(106,ar an Tryz.f106 5 [] (fun _=>false) (fun _=>false) (fun _=>false) false) ::(107,ar an Tryz.f107 5 [] (fun _=>false) (fun _=>false) (fun _=>false) false) ::(109,ar an Tryz.f109 151115799509488183025661 [] (fun _=>false) (fun _=>false) (fun _=>false) false) ::(110,ar an Tryz.f110 618970019647202533975261693 [] (fun _=>false) (fun _=>false) (fun _=>false) false) ::(111,ar an Tryz.f111 29 [] (fun _=>false) (fun _=>false) (fun _=>false) false) ::(112,ar an Tryz.f112 3 [] (fun d=>Nat.beq d 8) (fun _=>false) (fun _=>false) false) ::(113,ar an Tryz.f113 7 [] (fun d=>Nat.beq d 15) (fun _=>false) (fun _=>false) false) ::(116,ar an Tryz.f116 275 [] (fun _=>false) (fun _=>false) (fun _=>false) false) ::(114,ar an Tryz.f114 131 [] (fun _=>false) (fun _=>false) (fun _=>false) false) ::(118,ar an Tryz.f118 7 [] (fun _=>false) (fun _=>false) (fun _=>false) false) ::(117,ar an Tryz.f117 271375 [] (fun _=>false) (fun _=>false) (fun _=>false) false) ::(120,ar an Tryz.f120 32819 [] (fun _=>false) (fun _=>false) (fun _=>false) false) ::(121,ar an Tryz.f121 15 [] (fun _=>false) (fun _=>false) (fun _=>false) false) ::(122,ar an Tryz.f122 17180524607 [] (fun _=>false) (fun _=>false) (fun _=>false) false) ::(84,ar an Tryz.f84 3537148372723500476506894142080440715070649430595550180525943565456506895 [] (fun _=>false) (fun _=>false) (fun _=>false) false) ::(85,ar an Tryz.f85 27 [] (fun _=>false) (fun _=>false) (fun _=>false) false) ::(86,ar an Tryz.f86 21 [] (fun _=>false) (fun _=>false) (fun _=>false) false) ::(87,ar an Tryz.f87 5 [] (fun _=>false) (fun _=>false) (fun _=>false) false) ::(153,ar an Tryz.f153 5 [] (fun _=>false) (fun _=>false) (fun _=>false) false) ::(155,ar an Tryz.f155 9316337836119 [] (fun _=>false) (fun _=>false) (fun _=>false) false) ::(157,ar an Tryz.f157 5 [] (fun _=>false) (fun _=>false) (fun _=>false) false) ::(115,ar an Tryz.f115 2228285 [] (fun _=>false) (fun _=>false) (fun _=>false) false) ::(161,ar an Tryz.f161 51 [] (fun _=>false) (fun _=>false) (fun _=>false) false) ::(119,ar an Tryz.f119 65587 [] (fun _=>false) (fun _=>false) (fun _=>false) false) ::(163,ar an Tryz.f163 23945973599159813139139346461134680183357916012085311 [] (fun _=>false) (fun _=>false) (fun _=>false) false) ::(164,ar an Tryz.f164 3 [] (fun d=>Nat.beq d 8) (fun _=>false) (fun _=>false) false) ::(123,ar an Tryz.f123 7 [] (fun _=>false) (fun _=>false) (fun _=>false) false) ::(124,ar an Tryz.f124 27 [] (fun _=>false) (fun _=>false) (fun _=>false) false) ::(125,ar an Tryz.f125 7 [] (fun _=>false) (fun _=>false) (fun _=>false) false) ::(126,ar an Tryz.f126 2098133 [] (fun _=>false) (fun _=>false) (fun _=>false) false) ::(127,ar an Tryz.f127 13 [] (fun _=>false) (fun _=>false) (fun _=>false) false) ::(128,ar an Tryz.f128 27 [] (fun _=>false) (fun _=>false) (fun _=>false) false) ::(130,ar an Tryz.f130 15 [] (fun _=>false) (fun _=>false) (fun _=>false) false) ::(129,ar an Tryz.f129 19 [] (fun _=>false) (fun _=>false) (fun _=>false) false) ::(190,ar an Tryz.f190 18014398524686365 [] (fun _=>false) (fun _=>false) (fun _=>false) false) ::(159,ar an Tryz.f159 324677087359430077278579446644799 [] (fun d=>Nat.beq d 129) (fun _=>false) (fun _=>false) false) ::(160,ar an Tryz.f160 299063 [] (fun _=>false) (fun _=>false) (fun _=>false) false) ::(162,ar an Tryz.f162 19 [] (fun _=>false) (fun _=>false) (fun _=>false) false) ::(201,ar an Tryz.f201 3 [] (fun d=>Nat.beq d 23) (fun _=>false) (fun _=>false) false) ::(202,ar an Tryz.f202 13 [] (fun _=>false) (fun _=>false) (fun _=>false) false) ::(166,ar an Tryz.f166 15 [] (fun _=>false) (fun _=>false) (fun _=>false) false) ::(165,ar an Tryz.f165 19 [] (fun _=>false) (fun _=>false) (fun _=>false) false) ::(167,ar an Tryz.f167 7 [] (fun _=>false) (fun _=>false) (fun _=>false) false) ::(141,ar an Tryz.f141 7 [] (fun _=>false) (fun _=>false) (fun _=>false) false) ::(170,ar an Tryz.f170 11 [] (fun _=>false) (fun _=>false) (fun _=>false) false) ::(169,ar an Tryz.f169 19 [] (fun _=>false) (fun _=>false) (fun _=>false) false) ::(171,ar an Tryz.f171 66483 [] (fun _=>false) (fun _=>false) (fun _=>false) false) ::(193,ar an Tryz.f193 7 [] (fun d=>Nat.beq d 21) (fun _=>false) (fun _=>false) false) ::(195,ar an Tryz.f195 149971 [] (fun _=>false) (fun _=>false) (fun _=>false) false) ::(196,ar an Tryz.f196 3 [] (fun d=>Nat.beq d 8) (fun _=>false) (fun _=>false) false) ::(197,ar an Tryz.f197 31 [] (fun _=>false) (fun _=>false) (fun _=>false) false) ::(198,ar an Tryz.f198 2159703 [] (fun _=>false) (fun _=>false) (fun _=>false) false) ::(199,ar an Tryz.f199 10141204803006463002229839257615 [] (fun _=>false) (fun _=>false) (fun _=>false) false) ::(200,ar an Tryz.f200 66483 [] (fun _=>false) (fun _=>false) (fun _=>false) false) ::(203,ar an Tryz.f203 66483 [] (fun _=>false) (fun _=>false) (fun _=>false) false) ::(181,ar an Tryz.f181 16883 [] (fun _=>false) (fun _=>false) (fun _=>false) false) ::(205,ar an Tryz.f205 66483 [] (fun _=>false) (fun _=>false) (fun _=>false) false) ::(194,ar an Tryz.f194 5 [] (fun _=>false) (fun _=>false) (fun _=>false) false) ::(226,ar an Tryz.f226 33071 [] (fun _=>false) (fun _=>false) (fun _=>false) false) ::(228,ar an Tryz.f228 17 [] (fun _=>false) (fun _=>false) (fun _=>false) false) ::(227,ar an Tryz.f227 246479 [] (fun _=>false) (fun _=>false) (fun _=>false) false) ::(229,ar an Tryz.f229 4444215 [] (fun _=>false) (fun _=>false) (fun _=>false) false) ::(230,ar an Tryz.f230 5 [] (fun _=>false) (fun _=>false) (fun _=>false) false) ::[]
theorem lP:ad Tryz.prog oh:=ad.cons Tryz.func21 (by kernel_rfl) (ad.cons Tryz.func11 (by kernel_rfl) (ad.cons Tryz.func13 (by kernel_rfl) (ad.cons Tryz.func40 (by kernel_rfl) (ad.cons Tryz.func41 (by kernel_rfl) (ad.cons Tryz.func42 (by kernel_rfl) (ad.cons Tryz.func22 (by kernel_rfl) (ad.cons Tryz.func23 (by kernel_rfl) (ad.cons Tryz.func26 (by kernel_rfl) (ad.cons Tryz.func74 (by kernel_rfl) (ad.cons Tryz.func75 (by kernel_rfl) (ad.cons Tryz.func76 (by kernel_rfl) (ad.cons Tryz.func77 (by kernel_rfl) (ad.cons Tryz.func78 (by kernel_rfl) (ad.cons Tryz.func79 (by kernel_rfl) (ad.cons Tryz.func80 (by kernel_rfl) (ad.cons Tryz.func81 (by kernel_rfl) (ad.cons Tryz.func82 (by kernel_rfl) (ad.cons Tryz.func83 (by kernel_rfl) (ad.cons Tryz.func43 (by kernel_rfl) (ad.cons Tryz.func44 (by kernel_rfl) (ad.cons Tryz.func45 (by kernel_rfl) (ad.cons Tryz.func46 (by kernel_rfl) (ad.cons Tryz.func47 (by kernel_rfl) (ad.cons Tryz.func48 (by kernel_rfl) (ad.cons Tryz.func49 (by kernel_rfl) (ad.cons Tryz.func50 (by kernel_rfl) (ad.cons Tryz.func51 (by kernel_rfl) (ad.cons Tryz.func52 (by kernel_rfl) (ad.cons Tryz.func59 (by kernel_rfl) (ad.cons Tryz.func99 (by kernel_rfl) (ad.cons Tryz.func100 (by kernel_rfl) (ad.cons Tryz.func101 (by kernel_rfl) (ad.cons Tryz.func102 (by kernel_rfl) (ad.cons Tryz.func103 (by kernel_rfl) (ad.cons Tryz.func104 (by kernel_rfl) (ad.cons Tryz.func105 (by kernel_rfl) (ad.cons Tryz.func106 (by kernel_rfl) (ad.cons Tryz.func107 (by kernel_rfl) (ad.cons Tryz.func109 (by kernel_rfl) (ad.cons Tryz.func110 (by kernel_rfl) (ad.cons Tryz.func111 (by kernel_rfl) (ad.cons Tryz.func112 (by kernel_rfl) (ad.cons Tryz.func113 (by kernel_rfl) (ad.cons Tryz.func116 (by kernel_rfl) (ad.cons Tryz.func114 (by kernel_rfl) (ad.cons Tryz.func118 (by kernel_rfl) (ad.cons Tryz.func117 (by kernel_rfl) (ad.cons Tryz.func120 (by kernel_rfl) (ad.cons Tryz.func121 (by kernel_rfl) (ad.cons Tryz.func122 (by kernel_rfl) (ad.cons Tryz.func84 (by kernel_rfl) (ad.cons Tryz.func85 (by kernel_rfl) (ad.cons Tryz.func86 (by kernel_rfl) (ad.cons Tryz.func87 (by kernel_rfl) (ad.cons Tryz.func153 (by kernel_rfl) (ad.cons Tryz.func155 (by kernel_rfl) (ad.cons Tryz.func157 (by kernel_rfl) (ad.cons Tryz.func115 (by kernel_rfl) (ad.cons Tryz.func161 (by kernel_rfl) (ad.cons Tryz.func119 (by kernel_rfl) (ad.cons Tryz.func163 (by kernel_rfl) (ad.cons Tryz.func164 (by kernel_rfl) (ad.cons Tryz.func123 (by kernel_rfl) (ad.cons Tryz.func124 (by kernel_rfl) (ad.cons Tryz.func125 (by kernel_rfl) (ad.cons Tryz.func126 (by kernel_rfl) (ad.cons Tryz.func127 (by kernel_rfl) (ad.cons Tryz.func128 (by kernel_rfl) (ad.cons Tryz.func130 (by kernel_rfl) (ad.cons Tryz.func129 (by kernel_rfl) (ad.cons Tryz.func190 (by kernel_rfl) (ad.cons Tryz.func159 (by kernel_rfl) (ad.cons Tryz.func160 (by kernel_rfl) (ad.cons Tryz.func162 (by kernel_rfl) (ad.cons Tryz.func201 (by kernel_rfl) (ad.cons Tryz.func202 (by kernel_rfl) (ad.cons Tryz.func166 (by kernel_rfl) (ad.cons Tryz.func165 (by kernel_rfl) (ad.cons Tryz.func167 (by kernel_rfl) (ad.cons Tryz.func141 (by kernel_rfl) (ad.cons Tryz.func170 (by kernel_rfl) (ad.cons Tryz.func169 (by kernel_rfl) (ad.cons Tryz.func171 (by kernel_rfl) (ad.cons Tryz.func193 (by kernel_rfl) (ad.cons Tryz.func195 (by kernel_rfl) (ad.cons Tryz.func196 (by kernel_rfl) (ad.cons Tryz.func197 (by kernel_rfl) (ad.cons Tryz.func198 (by kernel_rfl) (ad.cons Tryz.func199 (by kernel_rfl) (ad.cons Tryz.func200 (by kernel_rfl) (ad.cons Tryz.func203 (by kernel_rfl) (ad.cons Tryz.func181 (by kernel_rfl) (ad.cons Tryz.func205 (by kernel_rfl) (ad.cons Tryz.func194 (by kernel_rfl) (ad.cons Tryz.func226 (by kernel_rfl) (ad.cons Tryz.func228 (by kernel_rfl) (ad.cons Tryz.func227 (by kernel_rfl) (ad.cons Tryz.func229 (by kernel_rfl) (ad.cons Tryz.func230 (by kernel_rfl) (ad.nil))))))))))))))))))))))))))))))))))))))))))))))))))))))))))))))))))))))))))))))))))))))))))))))))))))
end Go.AL.Seat
end
noncomputable section
namespace Go.AL.Seat
open Go Go.AL Go.Proofs Go.Pd
set_option maxRecDepth 1000000
def aw1:Str:=[108,101,116,32,120,32,61,32,49,32,105,110,32,120]
def Av:AV:=.tup [.lst (.st .token) [⟨5,[108,101,116],0⟩,⟨1,[120],4⟩,⟨6,[61],6⟩,⟨3,[49],8⟩,⟨5,[105,110],10⟩,⟨1,[120],13⟩,⟨0,[],14⟩] none,.agg [.int .i64 0,.int .i64 0]]
variable [Tabs] [SeatLaid]
theorem AW:bl Tryz.prog 40 [.str aw1] [] (.ret Av):=ju (n:=100) mixed sd og lP (by kernel_rfl:rS an oh yr yq 5000 (fb pr) 100 40 [.str aw1] []=some ⟨none,none,Av,[]⟩)
def ue:Trm:=⟨14,[],[120],0,[],[],[],[⟨1,[],[],1,[],[],[],[],8⟩,⟨5,[],[120],0,[],[],[],[],13⟩],0⟩
def awA (t:Trm):AV:=.tup [.agg [.int .i64 t.kind,.str t.pkg,.str t.name,.int .i64 t.n,.nils,.nils,.nils,.lst (.st .term) t.parts none,.int .i64 t.pos],.agg [.int .i64 0,.int .i64 0]]
def yt:List (Nat × Pat):=(40,uQ [.str aw1] Av) ::pr
theorem wy:bz Tryz.prog (fb yt):=sc (uR (ee Tryz.func40) AW) og
theorem AX:bl Tryz.prog 21 [.str aw1] [] (.ret (awA ue)):=ju (n:=100) mixed sd wy lP (by kernel_rfl:rS an oh yr yq 5000 (fb yt) 100 21 [.str aw1] []=some ⟨none,none,awA ue,[]⟩)
end Go.AL.Seat
end
noncomputable section
namespace Go.AL.Seat
open Go Go.AL Go.Proofs
variable [Tabs]
def ba:List (Nat × TR):=[(3,r2),(26,⟨.strct false [(0,3),(1,9),(2,9),(3,3),(4,22),(5,22),(6,23),(7,24),(8,3)],9,152,[.int .i64 0,.str [],.str [],.int .i64 0,.nils,.nils,.nils,.nils,.int .i64 0],some (.st .term)⟩),(9,r9),(200,vZ),(49,⟨.strct false [(0,3),(1,9),(2,9),(3,22),(4,23)],5,88,[.int .i64 0,.str [],.str [],.nils,.nils],some (.st .shape)⟩),(22,⟨.slice 9,1,24,[.nils],some (.lst .str)⟩),(71,r70),(60,⟨.strct false [(0,3),(1,3),(2,9),(3,22),(4,58),(5,3)],6,88,[.int .i64 0,.int .i64 0,.str [],.nils,.nils,.int .i64 0],some (.st .op)⟩),(61,⟨.slice 60,1,24,[.nils],some (.lst (.st .op))⟩),(69,⟨.slice 73,1,24,[.nils],some (.lst (.st .nm))⟩),(24,⟨.slice 26,1,24,[.nils],some (.lst (.st .term))⟩),(23,⟨.slice 49,1,24,[.nils],some (.lst (.st .shape))⟩),(4,⟨.bool,1,1,[.bool false],some .bool⟩),(31,⟨.slice 63,1,24,[.nils],some (.lst (.st .chunk))⟩),(68,r67),(58,⟨.slice 3,1,24,[.nils],some (.lst (.int .i64))⟩),(73,⟨.strct true [(0,9),(1,9)],2,32,[.str [],.str []],some (.st .nm)⟩),(5,r5),(51,⟨.strct false [(0,9),(1,9),(2,49)],7,120,[.str [],.str [],.int .i64 0,.str [],.str [],.nils,.nils],some (.st .bind)⟩),(66,⟨.ptr 31,1,8,[.nilp],none⟩),(63,⟨.strct false [(0,3),(1,61)],2,32,[.int .i64 0,.nils],some (.st .chunk)⟩),(32,r2),(122,⟨.slice 5,1,24,[.nils],some (.lst (.int .u8))⟩),(268,w4),(27,⟨.slice 51,1,24,[.nils],some (.lst (.st .bind))⟩),(110,r1),(203,r1),(46,r1),(20,r20),(267,w4),(48,⟨.strct false [(0,3),(1,9),(2,9),(3,22),(4,23)],5,88,[.int .i64 0,.str [],.str [],.nils,.nils],none⟩),(199,vZ),(59,⟨.strct false [(0,3),(1,3),(2,9),(3,22),(4,58),(5,3)],6,88,[.int .i64 0,.int .i64 0,.str [],.nils,.nils,.int .i64 0],none⟩),(67,r67),(72,⟨.strct true [(0,9),(1,9)],2,32,[.str [],.str []],none⟩),(50,⟨.strct false [(0,9),(1,9),(2,49)],7,120,[.str [],.str [],.int .i64 0,.str [],.str [],.nils,.nils],none⟩),(70,r70),(62,⟨.strct false [(0,3),(1,61)],2,32,[.int .i64 0,.nils],none⟩),(25,⟨.strct false [(0,3),(1,9),(2,9),(3,3),(4,22),(5,22),(6,23),(7,24),(8,3)],9,152,[.int .i64 0,.str [],.str [],.int .i64 0,.nils,.nils,.nils,.nils,.int .i64 0],none⟩)]
theorem yu:aI Tryz.prog ba:=.cons tk (.cons tk (.cons tk (.cons tk (.cons tk (.cons tk (.cons tk (.cons tk (.cons tk (.cons tk (.cons tk (.cons tk (.cons tk (.cons tk (.cons tk (.cons tk (.cons tk (.cons tk (.cons tk (.cons tk (.cons tk (.cons tk (.cons tk (.cons tk (.cons tk (.cons tk (.cons tk (.cons tk (.cons tk (.cons tk (.cons tk (.cons tk (.cons tk (.cons tk (.cons tk (.cons tk (.cons tk (.cons tk (.cons tk (.nil)))))))))))))))))))))))))))))))))))))))
end Go.AL.Seat
end
noncomputable section
namespace Go.AL.Seat
open Go Go.AL Go.Proofs
set_option maxRecDepth 1000000
variable [Tabs]
def Aw (f:Nat):List (Option Nat):=if Nat.beq f 74 || Nat.beq f 75 then [some 2] else if Nat.beq f 45 || Nat.beq f 87 then [some 1] else []
def Ax (f:Nat):Bool:=false
def se:List (Nat × FB):=(11,ar ba Tryz.f11 15746551 [(13,[17])] (fun _=>false) (fun d=>Nat.beq d 17) (fun _=>false) false) ::(22,ar ba Tryz.f22 74783 [] (fun _=>false) (fun _=>false) (fun _=>false) false) ::(23,ar ba Tryz.f23 686032242260302265618932259388129843 [] (fun _=>false) (fun _=>false) (fun _=>false) false) ::(43,ar ba Tryz.f43 2223863 [] (fun _=>false) (fun _=>false) (fun _=>false) false) ::(44,ar ba Tryz.f44 7 [] (fun _=>false) (fun _=>false) (fun _=>false) false) ::(45,ar ba Tryz.f45 19 [] (fun _=>false) (fun _=>false) (fun _=>false) false) ::(46,ar ba Tryz.f46 4294975539 [] (fun _=>false) (fun _=>false) (fun _=>false) false) ::(47,ar ba Tryz.f47 8444249301320051 [] (fun _=>false) (fun _=>false) (fun d=>Nat.beq d 39) false) ::(48,ar ba Tryz.f48 51 [] (fun _=>false) (fun _=>false) (fun d=>Nat.beq d 49 || Nat.beq d 68) false) ::(49,ar ba Tryz.f49 37138201178561408728010064627 [] (fun _=>false) (fun _=>false) (fun d=>Nat.beq d 24 || Nat.beq d 106) false) ::(50,ar ba Tryz.f50 7 [] (fun _=>false) (fun _=>false) (fun _=>false) false) ::(51,ar ba Tryz.f51 467 [] (fun _=>false) (fun _=>false) (fun _=>false) false) ::(52,ar ba Tryz.f52 302379064902644767129997 [] (fun _=>false) (fun _=>false) (fun d=>Nat.beq d 27) false) ::(84,ar ba Tryz.f84 3537148372723500476506894142080440715070649430595550180525943565456506895 [] (fun _=>false) (fun _=>false) (fun _=>false) false) ::(85,ar ba Tryz.f85 27 [] (fun _=>false) (fun _=>false) (fun _=>false) false) ::(86,ar ba Tryz.f86 21 [] (fun _=>false) (fun _=>false) (fun _=>false) false) ::(87,ar ba Tryz.f87 5 [] (fun _=>false) (fun _=>false) (fun _=>false) false) ::(123,ar ba Tryz.f123 7 [] (fun _=>false) (fun _=>false) (fun _=>false) false) ::(124,ar ba Tryz.f124 27 [] (fun _=>false) (fun _=>false) (fun _=>false) false) ::(125,ar ba Tryz.f125 7 [] (fun _=>false) (fun _=>false) (fun _=>false) false) ::(126,ar ba Tryz.f126 2098133 [] (fun _=>false) (fun _=>false) (fun _=>false) false) ::(127,ar ba Tryz.f127 13 [] (fun _=>false) (fun _=>false) (fun _=>false) false) ::(128,ar ba Tryz.f128 27 [] (fun _=>false) (fun _=>false) (fun _=>false) false) ::(130,ar ba Tryz.f130 15 [] (fun _=>false) (fun _=>false) (fun _=>false) false) ::(129,ar ba Tryz.f129 19 [] (fun _=>false) (fun _=>false) (fun _=>false) false) ::(166,ar ba Tryz.f166 15 [] (fun _=>false) (fun _=>false) (fun _=>false) false) ::(165,ar ba Tryz.f165 19 [] (fun _=>false) (fun _=>false) (fun _=>false) false) ::(160,ar ba Tryz.f160 299063 [] (fun _=>false) (fun _=>false) (fun _=>false) false) ::(167,ar ba Tryz.f167 7 [] (fun _=>false) (fun _=>false) (fun _=>false) false) ::(141,ar ba Tryz.f141 7 [] (fun _=>false) (fun _=>false) (fun _=>false) false) ::(170,ar ba Tryz.f170 11 [] (fun _=>false) (fun _=>false) (fun _=>false) false) ::(169,ar ba Tryz.f169 19 [] (fun _=>false) (fun _=>false) (fun _=>false) false) ::(171,ar ba Tryz.f171 66483 [] (fun _=>false) (fun _=>false) (fun _=>false) false) ::(203,ar ba Tryz.f203 66483 [] (fun _=>false) (fun _=>false) (fun _=>false) false) ::(197,ar ba Tryz.f197 31 [] (fun _=>false) (fun _=>false) (fun _=>false) false) ::(198,ar ba Tryz.f198 2159703 [] (fun _=>false) (fun _=>false) (fun _=>false) false) ::(199,ar ba Tryz.f199 10141204803006463002229839257615 [] (fun _=>false) (fun _=>false) (fun _=>false) false) ::(181,ar ba Tryz.f181 16883 [] (fun _=>false) (fun _=>false) (fun _=>false) false) ::(205,ar ba Tryz.f205 66483 [] (fun _=>false) (fun _=>false) (fun _=>false) false) ::(226,ar ba Tryz.f226 33071 [] (fun _=>false) (fun _=>false) (fun _=>false) false) ::(228,ar ba Tryz.f228 17 [] (fun _=>false) (fun _=>false) (fun _=>false) false) ::(227,ar ba Tryz.f227 246479 [] (fun _=>false) (fun _=>false) (fun _=>false) false) ::(229,ar ba Tryz.f229 4444215 [] (fun _=>false) (fun _=>false) (fun _=>false) false) ::(230,ar ba Tryz.f230 5 [] (fun _=>false) (fun _=>false) (fun _=>false) false) ::[]
theorem sf:ad Tryz.prog se:=ad.cons Tryz.func11 (by kernel_rfl) (ad.cons Tryz.func22 (by kernel_rfl) (ad.cons Tryz.func23 (by kernel_rfl) (ad.cons Tryz.func43 (by kernel_rfl) (ad.cons Tryz.func44 (by kernel_rfl) (ad.cons Tryz.func45 (by kernel_rfl) (ad.cons Tryz.func46 (by kernel_rfl) (ad.cons Tryz.func47 (by kernel_rfl) (ad.cons Tryz.func48 (by kernel_rfl) (ad.cons Tryz.func49 (by kernel_rfl) (ad.cons Tryz.func50 (by kernel_rfl) (ad.cons Tryz.func51 (by kernel_rfl) (ad.cons Tryz.func52 (by kernel_rfl) (ad.cons Tryz.func84 (by kernel_rfl) (ad.cons Tryz.func85 (by kernel_rfl) (ad.cons Tryz.func86 (by kernel_rfl) (ad.cons Tryz.func87 (by kernel_rfl) (ad.cons Tryz.func123 (by kernel_rfl) (ad.cons Tryz.func124 (by kernel_rfl) (ad.cons Tryz.func125 (by kernel_rfl) (ad.cons Tryz.func126 (by kernel_rfl) (ad.cons Tryz.func127 (by kernel_rfl) (ad.cons Tryz.func128 (by kernel_rfl) (ad.cons Tryz.func130 (by kernel_rfl) (ad.cons Tryz.func129 (by kernel_rfl) (ad.cons Tryz.func166 (by kernel_rfl) (ad.cons Tryz.func165 (by kernel_rfl) (ad.cons Tryz.func160 (by kernel_rfl) (ad.cons Tryz.func167 (by kernel_rfl) (ad.cons Tryz.func141 (by kernel_rfl) (ad.cons Tryz.func170 (by kernel_rfl) (ad.cons Tryz.func169 (by kernel_rfl) (ad.cons Tryz.func171 (by kernel_rfl) (ad.cons Tryz.func203 (by kernel_rfl) (ad.cons Tryz.func197 (by kernel_rfl) (ad.cons Tryz.func198 (by kernel_rfl) (ad.cons Tryz.func199 (by kernel_rfl) (ad.cons Tryz.func181 (by kernel_rfl) (ad.cons Tryz.func205 (by kernel_rfl) (ad.cons Tryz.func226 (by kernel_rfl) (ad.cons Tryz.func228 (by kernel_rfl) (ad.cons Tryz.func227 (by kernel_rfl) (ad.cons Tryz.func229 (by kernel_rfl) (ad.cons Tryz.func230 (by kernel_rfl) (ad.nil))))))))))))))))))))))))))))))))))))))))))))
end Go.AL.Seat
end
noncomputable section
namespace Go.AL.Seat
open Go Go.AL Go.Proofs Go.Pd
set_option maxRecDepth 1000000
def awC:List Chnk:=[⟨0,[⟨1,1,[],[],[],8⟩,⟨12,0,[],[],[],0⟩,⟨4,0,[],[],[],13⟩,⟨13,1,[],[],[],0⟩]⟩]
def awB:AV:=.tup [.lst (.st .chunk) awC none,.int .i64 0]
def sg (t:Trm) (k:Int) (nm:Str) (n pos:Int):Bool:=
 decide (t.kind=k) && t.pkg.isEmpty && decide (t.name=nm) && decide (t.n=n) && t.names.isEmpty && t.vars.isEmpty && t.shapes.isEmpty && decide (t.pos=pos)
theorem oi {t:Trm} {k:Int} {nm:Str} {n pos:Int} (h:sg t k nm n pos=true):t=⟨k,[],nm,n,[],[],[],t.parts,pos⟩:=by
 simp only [sg,Bool.and_eq_true,decide_eq_true_eq,List.isEmpty_iff] at h
 obtain ⟨⟨⟨⟨⟨⟨⟨h1,h2⟩,h3⟩,h4⟩,h5⟩,h6⟩,h7⟩,h8⟩:=h
 cases t
 simp only at h1 h2 h3 h4 h5 h6 h7 h8
 subst h1 h2 h3 h4 h5 h6 h7 h8
 rfl
def Ay (t:Trm):Bool:=
 sg t 14 [120] 0 0 && (match t.parts with | [a,b]=>sg a 1 [] 1 8 && a.parts.isEmpty && (sg b 5 [120] 0 13 && b.parts.isEmpty) | _=>false)
theorem zC {t:Trm} (h:Ay t=true):t=ue:=by
 unfold Ay at h
 rw [Bool.and_eq_true] at h
 obtain ⟨h1,h2⟩:=h
 have e:=oi h1
 split at h2
 ·rename_i a b hp
  simp only [Bool.and_eq_true,List.isEmpty_iff] at h2
  obtain ⟨⟨a1,a2⟩,b1,b2⟩:=h2
  have ea:=oi a1
  have eb:=oi b1
  rw [a2] at ea
  rw [b2] at eb
  rw [e,hp,ea,eb]
  rfl
 ·cases h2
variable [Tabs] [SeatLaid]
theorem AY:bl Tryz.prog 11 [.st .term ue,.lst (.st .bind) [] none] [] (.ret awB):=ju (n:=100) mixed yu og sf (by kernel_rfl:rS ba se Ax Aw 5000 (fb pr) 100 11 [.st .term ue,.lst (.st .bind) [] none] []=some ⟨none,none,awB,[]⟩)
def zU:Pat:=q2 (.st .term) (.lst (.st .bind)) (fun t l=>Ay t && l.isEmpty) fun _ _=>awB
theorem zD:aD Tryz.prog 11 zU:=
 pg (O:=fun t l=>t=ue/\l=[]) (jD (ee Tryz.func11) fun t l _ _ ho=>by
  obtain ⟨rfl,rfl⟩:=ho _ rfl
  exact AY) fun t l q=>by
  rw [Bool.and_eq_true] at q
  exact ⟨zC q.1,List.isEmpty_iff.1 q.2⟩
end Go.AL.Seat
end
noncomputable section
namespace Go.AL.Seat
open Go Go.AL Go.Proofs
variable [Tabs]
def pw:List (Nat × TR):=[(3,r2),(60,⟨.strct false [(0,3),(1,3),(2,9),(3,22),(4,58),(5,3)],6,88,[.int .i64 0,.int .i64 0,.str [],.nils,.nils,.int .i64 0],some (.st .op)⟩),(32,r2),(9,r9),(61,⟨.slice 60,1,24,[.nils],some (.lst (.st .op))⟩),(31,⟨.slice 63,1,24,[.nils],some (.lst (.st .chunk))⟩),(58,⟨.slice 3,1,24,[.nils],some (.lst (.int .i64))⟩),(22,⟨.slice 9,1,24,[.nils],some (.lst .str)⟩),(63,⟨.strct false [(0,3),(1,61)],2,32,[.int .i64 0,.nils],some (.st .chunk)⟩),(26,⟨.strct false [(0,3),(1,9),(2,9),(3,3),(4,22),(5,22),(6,23),(7,24),(8,3)],9,152,[.int .i64 0,.str [],.str [],.int .i64 0,.nils,.nils,.nils,.nils,.int .i64 0],some (.st .term)⟩),(55,⟨.strct true [(0,32),(1,3)],2,16,[.int .i64 0,.int .i64 0],some (.st .fault)⟩),(23,⟨.slice 49,1,24,[.nils],some (.lst (.st .shape))⟩),(4,⟨.bool,1,1,[.bool false],some .bool⟩),(62,⟨.strct false [(0,3),(1,61)],2,32,[.int .i64 0,.nils],none⟩),(59,⟨.strct false [(0,3),(1,3),(2,9),(3,22),(4,58),(5,3)],6,88,[.int .i64 0,.int .i64 0,.str [],.nils,.nils,.int .i64 0],none⟩),(54,⟨.strct true [(0,32),(1,3)],2,16,[.int .i64 0,.int .i64 0],none⟩),(25,⟨.strct false [(0,3),(1,9),(2,9),(3,3),(4,22),(5,22),(6,23),(7,24),(8,3)],9,152,[.int .i64 0,.str [],.str [],.int .i64 0,.nils,.nils,.nils,.nils,.int .i64 0],none⟩),(24,⟨.slice 26,1,24,[.nils],some (.lst (.st .term))⟩),(49,⟨.strct false [(0,3),(1,9),(2,9),(3,22),(4,23)],5,88,[.int .i64 0,.str [],.str [],.nils,.nils],some (.st .shape)⟩),(48,⟨.strct false [(0,3),(1,9),(2,9),(3,22),(4,23)],5,88,[.int .i64 0,.str [],.str [],.nils,.nils],none⟩)]
theorem yw:aI Tryz.prog pw:=.cons tk (.cons tk (.cons tk (.cons tk (.cons tk (.cons tk (.cons tk (.cons tk (.cons tk (.cons tk (.cons tk (.cons tk (.cons tk (.cons tk (.cons tk (.cons tk (.cons tk (.cons tk (.cons tk (.cons tk (.nil))))))))))))))))))))
end Go.AL.Seat
end
noncomputable section
namespace Go.AL.Seat
open Go Go.AL Go.Proofs
set_option maxRecDepth 1000000
variable [Tabs]
def Az (f:Nat):List (Option Nat):=[]
def AA (f:Nat):Bool:=false
def sh:List (Nat × FB):=(10,ar pw Tryz.f10 1023 [] (fun _=>false) (fun _=>false) (fun _=>false) false) ::(13,ar pw Tryz.f13 2361185502030729349235 [] (fun _=>false) (fun _=>false) (fun d=>Nat.beq d 70) false) ::(26,ar pw Tryz.f26 288266660035428415 [] (fun _=>false) (fun _=>false) (fun _=>false) false) ::(59,ar pw Tryz.f59 33571891 [] (fun _=>false) (fun _=>false) (fun _=>false) false) ::[]
theorem si:ad Tryz.prog sh:=ad.cons Tryz.func10 (by kernel_rfl) (ad.cons Tryz.func13 (by kernel_rfl) (ad.cons Tryz.func26 (by kernel_rfl) (ad.cons Tryz.func59 (by kernel_rfl) (ad.nil))))
end Go.AL.Seat
end
noncomputable section
namespace Go.AL.Seat
open Go Go.AL Go.Proofs Go.Pd
set_option maxRecDepth 1000000
variable [Tabs] [SeatLaid]
def yx (l:List Chnk):Bool:=Nat.ble (lV l).length 8796093022208
theorem sj {l:List Chnk} (h:yx l=true):gR l:=Nat.le_of_ble_eq_true h
def zW:List (Nat × Pat):=[(21,uQ [.str aw1] (awA ue)),(11,zU),
 (15,q1 (.lst (.st .chunk)) yx fun l=>.tup [.str (dT l).1,.int .i64 (dT l).2]),
 (17,q1 .str (fun s=>Nat.ble s.length 68719476736) fun s=>.tup [.lst (.st .chunk) (bW s).1 none,.int .i64 (bW s).2]),
 (19,q2 (.lst (.st .chunk)) (.int .i64) (fun l _=>yx l) fun l n=>.int .i64 (fq l n))]
theorem yy:bz Tryz.prog (fb zW):=sc (uR (ee Tryz.func21) AX) (sc zD
 (sc (xS je fun _ h=>sj h) (sc (xS lN fun _ h=>Nat.le_of_ble_eq_true h) (sc (pg jd fun _ _ h=>sj h) sn))))
theorem sk:aD Tryz.prog 10 (p0 (.ret (.bool true))):=
 AU (ee Tryz.func10) (ju (n:=20) mixed yw yy si (by kernel_rfl:rS pw sh AA Az 50 (fb zW) 20 10 [] []=some ⟨none,none,.bool true,[]⟩))
end Go.AL.Seat
end
section
namespace Go.Proofs.YtldkmcedeenlnaaGreatDoor.JCodeForms
open Go.AL Go.AL.Seat Go.Pd Go.ChangeShapes Go.WideShapes Go.RowKit Go.Proofs.YtldkmcedeenlnaaGreatDoor.Join
set_option maxRecDepth 1000000
theorem par:Tryz.f6.params=#[9]:=by kernel_rfl
theorem res:Tryz.f6.resultTypes=#[4]:=by kernel_rfl
theorem spec {H:Type} (ds:List (DataW H)) (hd:ds.length=1):Rows.codeFormsSpec.fn H ds={results:=[.lit (.bool true)],args:=ds}:=by
 match ds,hd with
 | [d0],_=>rfl
theorem yz (H:Type) (enc:TypeId × Value→H) (W:World) (base:Nat) (args:Array Value) (ds gs:List (DataW H)) (before:List MemPlace)
  (hval:∀(j:Nat) t v,Tryz.f6.params[j]?=some t→args[j]?=some v→Value.okWide Tryz.prog W .any base t v)
  (hW:DataW.Whole enc Tryz.prog Tryz.f6.params.toList Rows.codeFormsSpec.vars false W args.toList ds gs before) (hL:laidMet Tryz.prog laid W) (hsh:W.ShapedOpen Tryz.prog) :
  Calls Tryz.prog 6 args W fun e W'=>∃v,e=.returned v/\Rows.codeFormsSpec.post enc Tryz.prog Tryz.f6 false true false false W args v W':=by
 letI:Tabs:=nM W
 haveI:SeatLaid:=xF hL hsh
 have hW':=hW
 obtain ⟨p,q,hA,hV,_,_,_⟩:=hW
 rw [par] at hA hval
 obtain ⟨v0,vs0,d0,ds0,p0,q0,hargs0,rfl,rfl,h0,r0⟩:=trodAll_cons hA
 obtain ⟨rfl,rfl,rfl⟩:=trodAll_nil r0
 obtain rfl:args=#[v0]:=by
  have:=congrArg List.toArray hargs0
  simpa using this
 obtain ⟨x0,hx0⟩:=xq undS (hval 0 9 v0 rfl rfl) h0
 refine (vN (kA bW dT fq x0 yb (fun a b=>zt a b) lN je jd sk) (fun b o v h=>h.2) (fun b x h=>h.2) (VL.cons hx0 .nil)).mono fun e W' ⟨he,hb⟩=>?_
 subst he
 refine ⟨_,rfl,xp (tb:=4) z7 (fun t ht=>?_) rfl (fun ds hd=>spec ds ?_) res undB hW' hb⟩
 ·rw [par] at ht
  have ht:t∈[9]:=ht
  simp only [List.mem_cons,List.not_mem_nil,or_false] at ht
  rcases ht with rfl
  ·exact ⟨AI,Nat.lt_trans (by decide) AJ⟩
 ·rw [par] at hd
  exact hd
theorem reads (os:Os) {H:Type} (enc:TypeId × Value→H):(DataW.whole enc Tryz.prog ((jt os).forCall (fun _ _=>0) ⟨#[],#[.string ⟨#[]⟩],[]⟩).memory Tryz.f6.params.toList Rows.codeFormsSpec.vars false [Value.string ⟨#[]⟩] 8).map (fun x=>(x.1,x.2.1))=some ([.lit (.string [])],[]):=by kernel_rfl
theorem AB (os:Os) (started:os.Started) (H:Type) (enc:TypeId × Value→H) (F:Stop.Interp) :
  ReturnsInHanded {} Tryz.checked os 6 .any ((OpenSpec.ofChange Rows.codeFormsSpec).preRow enc Tryz.prog Tryz.f6 Rows.codeFormsRow.domain false Rows.codeFormsRow.laid) (((OpenSpec.ofChange Rows.codeFormsSpec).at F).post enc Tryz.prog Tryz.f6 false true false false):=by
 obtain ⟨⟨y1,y2,y3⟩,hx,hy⟩:=Option.map_eq_some_iff.1 (reads os enc)
 simp only [Prod.mk.injEq] at hy
 obtain ⟨rfl,rfl⟩:=hy
 refine returnsInHanded_of_row (C:=Tryz.checked) (s:=OpenSpec.ofChange Rows.codeFormsSpec) own started (by kernel_rfl) Tryz.func6
  (witness_row_atRef (enc:=enc) (C:=Tryz.checked) false (jt os) #[.string ⟨#[]⟩] rfl (by kernel_rfl) (by kernel_rfl) (by kernel_rfl)
   (OpenSpec.preRow_of_cond 8 hx (by kernel_rfl) (fun k hk=>by cases hk) (by kernel_rfl) (xG os _))) ?_
 intro W base args ds gs before hval hW _ _ _ hL hsh _
 exact yz H enc W base args ds gs before hval hW hL hsh
theorem c1:(Rows.codeFormsRow.inPlace ==Tryz.prog.inPlace 6)=true:=by kernel_rfl
theorem c2:(Rows.codeFormsRow.unfollowed ==Tryz.prog.unfollowed 6)=true:=by kernel_rfl
theorem c3:(Rows.codeFormsRow.recurses ==Tryz.prog.recurses 6)=true:=by kernel_rfl
theorem c4:(Rows.codeFormsRow.named ==Tryz.prog.varsNamed 6)=true:=by kernel_rfl
theorem AD:joinedFacts Tryz.prog 6 Tryz.f6 (OpenSpec.ofChange Rows.codeFormsSpec).bare Rows.codeFormsRow=true:=by
 unfold joinedFacts
 rw [c1,c2,c3,c4]
 kernel_rfl
theorem said:Rows.CodeFormsSaid:=
 OpenClaim.holds_of_cond 6 Tryz.f6 rfl rfl rfl rfl rfl rfl rfl ⟨rfl,rfl,rfl,rfl,rfl⟩ rfl rfl rfl rfl rfl (by kernel_rfl) Tryz.func6 AD
  (Xo (by kernel_rfl)) (by unfold Func.isWrapper;first | (rw [if_pos (by decide+kernel)];kernel_rfl) | (rw [if_neg (by decide+kernel)];exact ⟨rfl,rfl⟩))
  (fun os started H enc _ F=>by rw [OpenClaim.pre_eq_preRow];exact AB os started H enc F)
theorem cC (f:FuncId) (fn:Func) (hf:Tryz.pinned.checked.prog.funcNamed "pandect/pandectlaw31.CodeForms"=some f) (hfn:Tryz.pinned.checked.prog.funcs[f]?=some fn) :
  true=Tryz.pinned.checked.prog.looks []/\∀(j:Nat) t,fn.params[j]?=some t→Tryz.pinned.checked.prog.wantsStandIn t=false:=by
 obtain rfl:f=6:=Option.some.inj ((show Tryz.prog.funcNamed "pandect/pandectlaw31.CodeForms"=some 6 by kernel_rfl).symm.trans hf) |>.symm
 obtain rfl:fn=Tryz.f6:=(Option.some.inj (Tryz.func6.symm.trans hfn)).symm
 refine ⟨by kernel_rfl,fun j t ht=>?_⟩
 rw [par] at ht
 have ht:=Array.mem_of_getElem? ht
 simp only [List.mem_toArray,List.mem_cons,List.not_mem_nil,or_false] at ht
 rcases ht with rfl
 ·exact (show Tryz.prog.wantsStandIn 9=false by kernel_rfl)
theorem card:Rows.CodeFormsCardSaid:=
 Claim7.holds_tied_plain_at .later [] _ _ _ _ said (fun _ h=>by cases h) (by kernel_rfl) (fun _ h=>by cases h) codeForms_row_tie rfl ⟨rfl,rfl⟩ (by kernel_rfl) rfl cC (by kernel_rfl)
end Go.Proofs.YtldkmcedeenlnaaGreatDoor.JCodeForms
end
