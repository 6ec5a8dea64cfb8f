/- Plain facts. The layer: Go code as conditions, and that they are sound. No condition. -/
import Derived.Test.YtldkmcedeenlnaaGreatDoorT04
import Derived.Lib.ItoaNum
import Derived.LoopN
import Derived.Recover
import Derived.Shelf.Slices.Clone
import Derived.Shelf.Strconv.Itoa0
import Derived.Shelf.Strings.BuilderF
import Derived.Shelf.Strings.OnBuilder
import Derived.Test.YtldkmcedeenlnaaGreatDoorProg
set_option linter.all false
set_option maxRecDepth 100000
noncomputable section
namespace Go.Pd
open Go Go.AL
def tkN(s:Str)(p:Int)(b:Bool):Int×Int×Bool:=
 if b=true∨(aN s p).2.2≠0∨9223372036854775807<(aN s p).1 then(0,p,true)else((aN s p).1,(aN s p).2.1,b)
theorem jG{s:Str}{p:Int}{b:Bool}(h:AtS s p):0<=(tkN s p b).1/\(tkN s p b).1<=9223372036854775807/\AtS s (tkN s p b).2.1/\p<=(tkN s p b).2.1/\((tkN s p b).2.2=false->b=false/\p<(tkN s p b).2.1):=by
 obtain⟨h1,h2,h3⟩:=lT s p;unfold tkN;split
 ·exact⟨by simp,by simp,h,Oq _,by simp⟩
 ·rename_i k;obtain⟨a1,a2,a3⟩:=h3 (Classical.byContradiction fun q=>k (.inr (.inl q)));unfold InU at h1;have:¬(9223372036854775807:Int)<(aN s p).1:=fun q=>k (.inr (.inr q));exact⟨h1.1,by simp only;omega,a2,by simp only;omega,fun q=>⟨q,a3⟩⟩
def eH(s:Str)(p:Int)(b:Bool):Int:=if b=true then 1 else(s.length:Int)-p+2
theorem iB{s:Str}{p:Int}{b:Bool}(h:AtS s p):1<=eH s p b:=by unfold eH AtS at *;split<;>omega
theorem gD{s:Str}{p q:Int}{c:Bool}(h:AtS s p)(hq:AtS s q)(h1:c=false->p<q):eH s q c+1<=eH s p false:=by
 unfold eH AtS at *
 cases c with|true=>simp;omega|false=>have:=h1 rfl;simp;omega
def toL(s:Str):Nat->Int->List Int->Int->Bool->List Int×Int×Bool
 |0,_,l,p,_=>(l,p,true)
 |f+1,m,l,p,b=>if 0<m/\b=false then toL s f (m-1) (l++[(tkN s p b).1]) (tkN s p b).2.1 (tkN s p b).2.2 else(l,p,b)
def bg(b:Bool)(n:Int):Int:=if b=true then n else 0
theorem KB{s:Str}:∀(f:Nat)(m:Int)(l:List Int)(p:Int)(b:Bool),AtS s p->eH s p b<=f->
  AtS s (toL s f m l p b).2.1/\p<=(toL s f m l p b).2.1/\((toL s f m l p b).2.2=false->b=false)/\((toL s f m l p b).1.length:Int)+p<=l.length+(toL s f m l p b).2.1+bg (!b&&(toL s f m l p b).2.2) 1
 |0,m,l,p,b,h,hf=>by have:=iB (b:=b) h;omega
 |f+1,m,l,p,b,h,hf=>by
  unfold toL;split
  ·rename_i k;obtain⟨k1,rfl⟩:=k;obtain⟨a1,a2,a3,a4,a5⟩:=jG (b:=false) h;have hs:=gD h a3 (fun q=>(a5 q).2);obtain⟨b1,b2,b3,b4⟩:=KB f (m-1) (l++[(tkN s p false).1]) (tkN s p false).2.1 (tkN s p false).2.2 a3 (by omega);refine⟨b1,by omega,fun _=>rfl,?_⟩;simp only[Mq,Mr]at b4
   cases hc:(tkN s p false).2.2 with
   |false=>
    have:=(a5 hc).2;rw[hc]at b4;simp only[hc]at *
    have e:(!false&&(toL s f (m-1) (l++[(tkN s p false).1]) (tkN s p false).2.1 false).2.2)=(toL s f (m-1) (l++[(tkN s p false).1]) (tkN s p false).2.1 false).2.2:=by simp
    omega
   |true=>
    rw[hc]at b4 b3
    have e:(toL s f (m-1) (l++[(tkN s p false).1]) (tkN s p false).2.1 true).2.2=true:=by
     cases hh:(toL s f (m-1) (l++[(tkN s p false).1]) (tkN s p false).2.1 true).2.2 with|true=>rfl|false=>exact absurd (b3 hh) (by simp)
    simp only[hc]at b4 b2⊢;rw[e]at b4⊢;simp[bg]at b4⊢;omega
  ·exact⟨h,Oq _,fun q=>q,by cases b<;>simp[bg]⟩
def op1(s:Str)(p:Int)(b:Bool):Int×Int×Bool:=tkN s p b
def op2(s:Str)(p:Int)(b:Bool):Int×Int×Bool:=tkN s (op1 s p b).2.1 (op1 s p b).2.2
def op3(s:Str)(p:Int)(b:Bool):Str×Int×Int:=cA s (op2 s p b).2.1
def op4(s:Str)(p:Int)(b:Bool):List Str×Int×Int:=dy s (op3 s p b).2.1
def op5(s:Str)(p:Int)(b:Bool):Int×Int×Bool:=tkN s (op4 s p b).2.1 (op2 s p b).2.2
def op6(s:Str)(p:Int)(b:Bool):List Int×Int×Bool:=toL s (s.length+2) (op5 s p b).1 [] (op5 s p b).2.1 (op5 s p b).2.2
def op7(s:Str)(p:Int)(b:Bool):Int×Int×Bool:=tkN s (op6 s p b).2.1 (op6 s p b).2.2
def opF(s:Str)(p:Int)(b:Bool):Opn×Int×Bool:=
 if(op2 s p b).2.2=true∨(op3 s p b).2.2≠0 then(⟨(op1 s p b).1,(op2 s p b).1,[],[],[],0⟩,(op2 s p b).2.1,true)
 else if(op4 s p b).2.2≠0 then(⟨(op1 s p b).1,(op2 s p b).1,[],[],[],0⟩,(op2 s p b).2.1,true)
 else(⟨(op1 s p b).1,(op2 s p b).1,(op3 s p b).1,(op4 s p b).1,(op6 s p b).1,(op7 s p b).1⟩,(op7 s p b).2.1,(op7 s p b).2.2)
def wO(o:Opn):Nat:=o.name.length+wL o.names+o.tos.length+1
theorem jH{s:Str}{p:Int}{b:Bool}(h:AtS s p):eH s p b<=((s.length+2:Nat):Int):=by unfold eH AtS at *;split<;>omega
theorem Mc{s:Str}{p:Int}{b:Bool}(h:AtS s p)(k2:(op3 s p b).2.2=0)(k3:(op4 s p b).2.2=0):AtS s (op5 s p b).2.1/\(op5 s p b).1<=9223372036854775807:=by obtain⟨c1,c2,c3⟩:=(nK s (op2 s p b).2.1).1 k2;obtain⟨d1,d2,d3⟩:=(xJ s (op3 s p b).2.1).1 k3;obtain⟨e1,e2,e3,e4,e5⟩:=jG (b:=(op2 s p b).2.2) d2;exact⟨e3,e2⟩
theorem KC{s:Str}{p:Int}{b:Bool}(h:AtS s p):AtS s (opF s p b).2.1/\p<=(opF s p b).2.1/\((opF s p b).2.2=false->b=false/\p<(opF s p b).2.1)/\
  (wO (opF s p b).1:Int)+p<=(opF s p b).2.1+bg (opF s p b).2.2 3:=by
 obtain⟨a1,a2,a3,a4,a5⟩:=jG (b:=b) h;obtain⟨b1,b2,b3,b4,b5⟩:=jG (b:=(op1 s p b).2.2) a3;have hp:p<=(op2 s p b).2.1:=Int.le_trans a4 b4;have h3:AtS s (op2 s p b).2.1:=b3;unfold opF;refine if k:(op2 s p b).2.2=true∨(op3 s p b).2.2≠0 then ?_ else ?_
 ·rw[Mu k];exact⟨h3,hp,by simp,by simp[wO,wL,bg];omega⟩
 rw[Mp k]
 have k1:(op2 s p b).2.2=false:=by
  cases hh:(op2 s p b).2.2 with|false=>rfl|true=>exact absurd (.inl hh) k
 have k2:(op3 s p b).2.2=0:=Classical.byContradiction fun q=>k (.inr q);obtain⟨c1,c2,c3⟩:=(nK s (op2 s p b).2.1).1 k2;refine if k3:(op4 s p b).2.2≠0 then ?_ else ?_
 ·rw[Mu k3];exact⟨h3,hp,by simp,by simp[wO,wL,bg];omega⟩
 rw[Mp k3];obtain⟨d1,d2,d3⟩:=(xJ s (op3 s p b).2.1).1 (Pm.1 k3);obtain⟨e1,e2,e3,e4,e5⟩:=jG (b:=(op2 s p b).2.2) d2;have e3:AtS s (op5 s p b).2.1:=e3;obtain⟨f1,f2,f3,f4⟩:=KB (s.length+2) (op5 s p b).1 [] (op5 s p b).2.1 (op5 s p b).2.2 e3 (jH e3);have f1:AtS s (op6 s p b).2.1:=f1;obtain⟨g1,g2,g3,g4,g5⟩:=jG (b:=(op6 s p b).2.2) f1;have c3:(op2 s p b).2.1+1+((op3 s p b).1.length:Int)<=(op3 s p b).2.1:=c3;have d3:(op3 s p b).2.1+1+(wL (op4 s p b).1:Int)<=(op4 s p b).2.1:=d3;have e4:(op4 s p b).2.1<=(op5 s p b).2.1:=e4;have e5:(op5 s p b).2.2=false->(op2 s p b).2.2=false/\(op4 s p b).2.1<(op5 s p b).2.1:=e5;have f2:(op5 s p b).2.1<=(op6 s p b).2.1:=f2;have f3:(op6 s p b).2.2=false->(op5 s p b).2.2=false:=f3;have f4:((op6 s p b).1.length:Int)+(op5 s p b).2.1<=0+(op6 s p b).2.1+bg (!(op5 s p b).2.2&&(op6 s p b).2.2) 1:=f4;have g3:AtS s (op7 s p b).2.1:=g3;have g4:(op6 s p b).2.1<=(op7 s p b).2.1:=g4;have g5:(op7 s p b).2.2=false->(op6 s p b).2.2=false/\(op6 s p b).2.1<(op7 s p b).2.1:=g5;have b5:(op2 s p b).2.2=false->(op1 s p b).2.2=false/\(op1 s p b).2.1<(op2 s p b).2.1:=b5;have a5:(op1 s p b).2.2=false->b=false/\p<(op1 s p b).2.1:=a5;have hb:b=false:=(a5 (b5 k1).1).1;have h12:=(a5 (b5 k1).1).2;have h13:=(b5 k1).2;refine⟨g3,by simp only;omega,fun q=>⟨hb,by simp only;omega⟩,?_⟩;simp only[wO]
 cases hz:(op7 s p b).2.2 with
 |true=>
  have hsl:bg (!(op5 s p b).2.2&&(op6 s p b).2.2) 1<=1:=by unfold bg;split<;>omega
  simp only[bg,Nu];omega
 |false=>have h7:=g5 hz;have h6:(op6 s p b).2.2=false:=h7.1;have h5:=f3 h6;have h8:=(e5 h5).2;rw[h6]at f4;simp[bg]at f4⊢;omega
def iS(s:Str):Nat->Int->List Opn->Int->Bool->List Opn×Int×Bool
 |0,_,l,p,_=>(l,p,true)
 |f+1,m,l,p,b=>if 0<m/\b=false then iS s f (m-1) (l++[(opF s p b).1]) (opF s p b).2.1 (opF s p b).2.2 else(l,p,b)
def wOs(l:List Opn):Nat:=(l.map wO).sum
theorem CL(a b:List Opn):wOs (a++b)=wOs a+wOs b:=by simp[wOs]
theorem Ar(l:List Opn):l.length<=wOs l:=by
 unfold wOs
 induction l with
 |nil=>simp
 |cons x r ih=>simp[wO]at ih⊢;omega
theorem GL{s:Str}:∀(f:Nat)(m:Int)(l:List Opn)(p:Int)(b:Bool),AtS s p->eH s p b<=f->
  AtS s (iS s f m l p b).2.1/\p<=(iS s f m l p b).2.1/\((iS s f m l p b).2.2=false->b=false)/\(wOs (iS s f m l p b).1:Int)+p<=wOs l+(iS s f m l p b).2.1+bg (!b&&(iS s f m l p b).2.2) 3
 |0,m,l,p,b,h,hf=>by have:=iB (b:=b) h;omega
 |f+1,m,l,p,b,h,hf=>by
  unfold iS;split
  ·rename_i k;obtain⟨k1,rfl⟩:=k;obtain⟨a3,a4,a5,a6⟩:=KC (b:=false) h;have hs:=gD h a3 (fun q=>(a5 q).2);obtain⟨b1,b2,b3,b4⟩:=GL f (m-1) (l++[(opF s p false).1]) (opF s p false).2.1 (opF s p false).2.2 a3 (by omega);refine⟨b1,by omega,fun _=>rfl,?_⟩;rw[CL]at b4;have e1:wOs [(opF s p false).1]=wO (opF s p false).1:=by simp[wOs]
   rw[e1]at b4
   cases hc:(opF s p false).2.2 with
   |false=>rw[hc]at b4 a6;simp[bg]at b4 a6⊢;omega
   |true=>
    rw[hc]at b4 b3 a6
    have e:(iS s f (m-1) (l++[(opF s p false).1]) (opF s p false).2.1 true).2.2=true:=by
     cases hh:(iS s f (m-1) (l++[(opF s p false).1]) (opF s p false).2.1 true).2.2 with|true=>rfl|false=>exact absurd (b3 hh) (by simp)
    rw[hc]at b2;rw[e]at b4⊢;simp[bg]at b4 a6⊢;omega
  ·exact⟨h,Oq _,fun q=>q,by cases b<;>simp[bg]⟩
def wC(c:Chnk):Nat:=wOs c.ops+1
def wCs(l:List Chnk):Nat:=(l.map wC).sum
theorem CM(a b:List Chnk):wCs (a++b)=wCs a+wCs b:=by simp[wCs]
theorem As(l:List Chnk):l.length<=wCs l:=by
 unfold wCs
 induction l with
 |nil=>simp
 |cons x r ih=>simp[wC]at ih⊢;omega
def ch1(s:Str)(p:Int)(b:Bool):Int×Int×Bool:=tkN s p b
def ch2(s:Str)(p:Int)(b:Bool):Int×Int×Bool:=tkN s (ch1 s p b).2.1 (ch1 s p b).2.2
def ch3(s:Str)(p:Int)(b:Bool):List Opn×Int×Bool:=iS s (s.length+2) (ch2 s p b).1 [] (ch2 s p b).2.1 (ch2 s p b).2.2
theorem KD{s:Str}{p:Int}{b:Bool}(h:AtS s p):AtS s (ch2 s p b).2.1/\p<=(ch2 s p b).2.1/\((ch2 s p b).2.2=false->b=false/\p+1<(ch2 s p b).2.1):=by
 obtain⟨a1,a2,a3,a4,a5⟩:=jG (b:=b) h;obtain⟨b1,b2,b3,b4,b5⟩:=jG (b:=(ch1 s p b).2.2) a3
 exact⟨b3,Int.le_trans a4 b4,fun q=>by
  obtain⟨c1,c2⟩:=b5 q;obtain⟨d1,d2⟩:=a5 c1;have e1:(ch1 s p b).2.1=(tkN s p b).2.1:=rfl;have e2:(ch2 s p b).2.1=(tkN s (ch1 s p b).2.1 (ch1 s p b).2.2).2.1:=rfl;rw[e2];have e3:(tkN s (tkN s p b).2.1 (ch1 s p b).2.2).2.1=(tkN s (ch1 s p b).2.1 (ch1 s p b).2.2).2.1:=rfl;exact⟨d1,by omega⟩⟩
theorem KE{s:Str}{p:Int}{b:Bool}(h:AtS s p):AtS s (ch3 s p b).2.1/\p<=(ch3 s p b).2.1/\((ch3 s p b).2.2=false->b=false/\p<(ch3 s p b).2.1)/\
  (wC ⟨(ch1 s p b).1,(ch3 s p b).1⟩:Int)+p<=(ch3 s p b).2.1+bg (ch3 s p b).2.2 4:=by
 obtain⟨a1,a2,a3⟩:=KD (b:=b) h;obtain⟨b1,b2,b3,b4⟩:=GL (s.length+2) (ch2 s p b).1 [] (ch2 s p b).2.1 (ch2 s p b).2.2 a1 (jH a1);have e1:iS s (s.length+2) (ch2 s p b).1 [] (ch2 s p b).2.1 (ch2 s p b).2.2=ch3 s p b:=rfl;rw[e1]at b1 b2 b3 b4;refine⟨b1,by omega,fun q=>?_,?_⟩
 ·obtain⟨c1,c2⟩:=a3 (b3 q);exact⟨c1,by omega⟩
 ·unfold wC;simp only[wOs,O8,PL]at b4⊢
  cases hc:(ch3 s p b).2.2 with
  |true=>
   have hsl:bg (!(ch2 s p b).2.2&&(ch3 s p b).2.2) 3<=3:=by unfold bg;split<;>omega
   simp only[bg,Nu];omega
  |false=>obtain⟨c1,c2⟩:=a3 (b3 hc);rw[hc]at b4;simp[bg]at b4⊢;omega
def chL(s:Str):Nat->Int->List Chnk->Int->Bool->List Chnk×Int×Bool
 |0,_,l,p,_=>(l,p,true)
 |f+1,m,l,p,b=>if 0<m/\b=false then chL s f (m-1) (l++[⟨(ch1 s p b).1,(ch3 s p b).1⟩]) (ch3 s p b).2.1 (ch3 s p b).2.2 else(l,p,b)
theorem KF{s:Str}:∀(f:Nat)(m:Int)(l:List Chnk)(p:Int)(b:Bool),AtS s p->eH s p b<=f->
  AtS s (chL s f m l p b).2.1/\p<=(chL s f m l p b).2.1/\((chL s f m l p b).2.2=false->b=false)/\(wCs (chL s f m l p b).1:Int)+p<=wCs l+(chL s f m l p b).2.1+bg (!b&&(chL s f m l p b).2.2) 4
 |0,m,l,p,b,h,hf=>by have:=iB (b:=b) h;omega
 |f+1,m,l,p,b,h,hf=>by
  unfold chL;split
  ·rename_i k;obtain⟨k1,rfl⟩:=k;obtain⟨a3,a4,a5,a6⟩:=KE (b:=false) h;have hs:=gD h a3 (fun q=>(a5 q).2);obtain⟨b1,b2,b3,b4⟩:=KF f (m-1) (l++[⟨(ch1 s p false).1,(ch3 s p false).1⟩]) (ch3 s p false).2.1 (ch3 s p false).2.2 a3 (by omega);refine⟨b1,by omega,fun _=>rfl,?_⟩;rw[CM]at b4;have e1:wCs [(⟨(ch1 s p false).1,(ch3 s p false).1⟩:Chnk)]=wC ⟨(ch1 s p false).1,(ch3 s p false).1⟩:=by simp[wCs]
   rw[e1]at b4
   cases hc:(ch3 s p false).2.2 with
   |false=>rw[hc]at b4 a6;simp[bg]at b4 a6⊢;omega
   |true=>
    rw[hc]at b4 b3 a6
    have e:(chL s f (m-1) (l++[⟨(ch1 s p false).1,(ch3 s p false).1⟩]) (ch3 s p false).2.1 true).2.2=true:=by
     cases hh:(chL s f (m-1) (l++[⟨(ch1 s p false).1,(ch3 s p false).1⟩]) (ch3 s p false).2.1 true).2.2 with|true=>rfl|false=>exact absurd (b3 hh) (by simp)
    rw[hc]at b2;rw[e]at b4⊢;simp[bg]at b4 a6⊢;omega
  ·exact⟨h,Oq _,fun q=>q,by cases b<;>simp[bg]⟩
def nL(s:Str):List Chnk×Int×Bool:=chL s (s.length+2) (tkN s 0 false).1 [] (tkN s 0 false).2.1 (tkN s 0 false).2.2
theorem Lg(s:Str):(nL s).2.2=false->(wCs (nL s).1:Int)<=s.length:=by have h0:AtS s 0:=⟨Oq _,by omega⟩;obtain⟨a1,a2,a3,a4,a5⟩:=jG (b:=false) h0;obtain⟨b1,b2,b3,b4⟩:=KF (s.length+2) (tkN s 0 false).1 [] (tkN s 0 false).2.1 (tkN s 0 false).2.2 a3 (jH a3);have e1:chL s (s.length+2) (tkN s 0 false).1 [] (tkN s 0 false).2.1 (tkN s 0 false).2.2=nL s:=rfl;rw[e1]at b1 b2 b3 b4;intro q;rw[q]at b4;simp[bg,wCs]at b4⊢;unfold AtS at b1;omega
def dz(n:Int):Str:=hZ (IntKind.u64.wrap n)
theorem dM(n:Int):(dz n).length<=9:=lS _
def GM(o:Opn):Str:=dz o.kind++dz o.n++dj o.name++iN o.names++dz o.tos.length
def jo(o:Opn):Str:=GM o++o.tos.flatMap dz++dz o.pos
def J6(c:Chnk):Str:=dz c.args++dz c.ops.length
def mg(c:Chnk):Str:=J6 c++c.ops.flatMap jo
def pX(l:List Chnk):Str:=dz l.length++l.flatMap mg
theorem GN(l:List Str):(iN l).length<=9+9 *wL l:=by
 unfold iN;have h:=lS (l.length:Int)
 have:(l.flatMap dj).length<=9 *wL l:=by
  unfold wL
  induction l with
  |nil=>simp
  |cons x r ih=>have h9:=lS (x.length:Int);have:=ih (lS _);simp[dj]at this⊢;omega
 rw[Mq];omega
theorem J7(o:Opn):(jo o).length<=63 *wO o:=by
 have h1:=dM o.kind;have h2:=dM o.n;have h3:=lS (o.name.length:Int);have h4:=GN o.names;have h5:=dM (o.tos.length:Int);have h6:=dM o.pos
 have h7:(o.tos.flatMap dz).length<=9 *o.tos.length:=by
  generalize o.tos=l
  induction l with
  |nil=>simp
  |cons x r ih=>have:=dM x;simp at ih⊢;omega
 unfold jo GM wO dj;simp only[Mq];omega
theorem J8(c:Chnk):(mg c).length<=63 *wC c:=by
 have h1:=dM c.args;have h2:=dM (c.ops.length:Int)
 have h3:(c.ops.flatMap jo).length<=63 *wOs c.ops:=by
  generalize c.ops=l;unfold wOs
  induction l with
  |nil=>simp
  |cons x r ih=>have:=J7 x;simp at ih⊢;omega
 unfold mg J6 wC;simp only[Mq];omega
theorem J9(l:List Chnk):(pX l).length<=9+63 *wCs l:=by
 have h1:=dM (l.length:Int)
 have h3:(l.flatMap mg).length<=63 *wCs l:=by
  generalize l=l;unfold wCs
  induction l with
  |nil=>simp
  |cons x r ih=>have:=J8 x;simp at ih⊢;omega
 unfold pX;simp only[Mq];omega
def prC(l:List Chnk)(k:Nat):Str:=dz l.length++(l.take k).flatMap mg
def prO(c:Chnk)(j:Nat):Str:=J6 c++(c.ops.take j).flatMap jo
def prT(o:Opn)(i:Nat):Str:=GM o++(o.tos.take i).flatMap dz
theorem oM{α:Type}(l:List α)(k:Nat)(d:α)(h:k<l.length):l.take (k+1)=l.take k++[l.getD k d]:=by rw[List.take_add_one,Mn h];simp[h]
theorem xK{l:List Chnk}{k:Nat}(h:k<l.length):prC l (k+1)=prC l k++mg (l.getD k default):=by unfold prC;rw[oM l k default h];simp
theorem xL{c:Chnk}{k:Nat}(h:k<c.ops.length):prO c (k+1)=prO c k++jo (c.ops.getD k default):=by unfold prO;rw[oM c.ops k default h];simp
theorem GO{o:Opn}{k:Nat}(h:k<o.tos.length):prT o (k+1)=prT o k++dz (o.tos.getD k 0):=by unfold prT;rw[oM o.tos k 0 h];simp
theorem Ja(l:List Chnk):prC l l.length=pX l:=by unfold prC;rw[NS];rfl
theorem Jb(c:Chnk):prO c c.ops.length=mg c:=by unfold prO;rw[NS];rfl
theorem Jc(o:Opn):prT o o.tos.length++dz o.pos=jo o:=by unfold prT;rw[NS];rfl
theorem km{α β:Type}(f:α->List β)(l:List α)(k:Nat):((l.take k).flatMap f).length<=(l.flatMap f).length:=by
 have e:l.flatMap f=(l.take k).flatMap f++(l.drop k).flatMap f:=by rw[<-P1,OM]
 rw[e,Mq];omega
theorem GP(l:List Chnk)(k:Nat):(prC l k).length<=(pX l).length:=by have:=km mg l k;unfold prC pX;simp only[Mq];omega
theorem GQ(c:Chnk)(k:Nat):(prO c k).length<=(mg c).length:=by have:=km jo c.ops k;unfold prO mg;simp only[Mq];omega
theorem Lh(o:Opn)(k:Nat):(prT o k).length<=(jo o).length:=by have:=km dz o.tos k;unfold prT jo;simp only[Mq];omega
theorem xM{l:List Chnk}{k:Nat}(h:k<l.length):(mg (l.getD k default)).length<=(pX l).length:=by have:=GP l (k+1);rw[xK h,Mq]at this;omega
theorem xN{c:Chnk}{k:Nat}(h:k<c.ops.length):(jo (c.ops.getD k default)).length<=(mg c).length:=by have:=GQ c (k+1);rw[xL h,Mq]at this;omega
theorem sj(o:Opn):(dj o.name).length<=(jo o).length/\(iN o.names).length<=(jo o).length/\o.name.length<=(jo o).length:=by
 unfold jo GM;have:o.name.length<=(dj o.name).length:=by unfold dj;rw[Mq];omega
 simp only[Mq];omega
theorem sk(n:Int):1<=(hZ n).length:=by
 unfold hZ;split
 ·simp[ic]
 ·simp[jf,jd]
theorem Au(c:Chnk):c.ops.length<=(mg c).length:=by
 have:c.ops.length<=(c.ops.flatMap jo).length:=by
  generalize c.ops=l
  induction l with
  |nil=>simp
  |cons x r ih=>
   have:1<=(jo x).length:=by have:=sk (IntKind.u64.wrap x.pos);unfold jo dz;simp only[Mq];omega
   simp only[NN,Mq,ML];omega
 unfold mg;simp only[Mq];omega
theorem so(o:Opn):o.tos.length<=(jo o).length:=by
 have:o.tos.length<=(o.tos.flatMap dz).length:=by
  generalize o.tos=l
  induction l with
  |nil=>simp
  |cons x r ih=>have:=sk (IntKind.u64.wrap x);simp only[NN,Mq,ML];unfold dz at ih⊢;omega
 unfold jo;simp only[Mq];omega
theorem vX(l:List Str):l.length<=(iN l).length:=by
 unfold iN
 have:l.length<=(l.flatMap dj).length:=by
  induction l with
  |nil=>simp
  |cons x r ih=>have:=sk (x.length:Int);simp[dj]at ih⊢;omega
 rw[Mq];omega
end Go.Pd
end
noncomputable section
namespace Go.Pd
open Go Go.AL
def is8(k:Int):Bool:=decide (k=1)||decide (k=4)||decide (k=6)||decide (k=7)||decide (k=11)||decide (k=13)||decide (k=14)||decide (k=15)
def isB(k:Int):Bool:=decide (k=9)||decide (k=10)
def isU(k:Int):Bool:=decide (k=17)||decide (k=18)
def isR(k:Int):Bool:=decide (k=8)||decide (k=16)
def is6(k:Int):Bool:=decide (k=1)||decide (k=2)||decide (k=3)||decide (k=4)||decide (k=6)||decide (k=5)
def is4(k:Int):Bool:=decide (k=9)||decide (k=10)||decide (k=17)||decide (k=18)
def is2(k:Int):Bool:=decide (k=12)||decide (k=14)
def toN(o:Opn):Int:=if o.kind=16 then o.names.length else 0
def nM(n d a:Bool)(o:Opn):Bool:=
 !((!n&&(!decide (o.n=0)||decide (o.kind=3)||decide (o.kind=5)))||(!d&&(!decide (o.name=[])||decide (17<=o.kind)||decide (o.kind=9)||decide (o.kind=10))))&&
 ((a||decide (o.names.length=0))&&decide ((o.tos.length:Int)=toN o)&&decide (0<=o.pos))
def lU(o:Opn):Bool:=
 if is8 o.kind=true then nM (decide (0<=o.n)) false false o
 else if o.kind=3 then nM (decide (o.n=0)||decide (o.n=1)) false false o
 else if o.kind=5 then nM (decide (o.n=110)) false false o
 else if o.kind=2 then nM false true false o
 else if isB o.kind=true then nM false (az o.name) false o
 else if isU o.kind=true then nM false (cH o.name) false o
 else if isR o.kind=true then nM false false (eG o.names) o
 else if o.kind=12 then nM false false false o
 else false
def jI(o:Opn):Int×Int:=
 if is6 o.kind=true then(0,1)
 else if o.kind=7 then(IntKind.i64.wrap (o.n+1),1)
 else if o.kind=8 then(o.names.length,1)
 else if o.kind=11 then(o.n,1)
 else if is4 o.kind=true then(1,1)
 else if o.kind=16 then(if o.names.length=0 then(1,1)else(1,0))
 else if is2 o.kind=true then(1,0)
 else(0,0)
def pY(x y:Stt):Bool:=decide (x.things=y.things)&&decide (x.names=y.names)
def cY(l:List Stt)(tgt:Int)(s:Stt):List Stt:=if(l.getD tgt.toNat default).things<0 then l.set tgt.toNat s else l
def dm(l:List Stt)(tgt:Int)(s:Stt):Bool:=pY ((cY l tgt s).getD tgt.toNat default) s
theorem eU(l:List Stt)(tgt:Int)(s:Stt):(cY l tgt s).length=l.length:=by unfold cY;split<;>simp
def KG(l:List Stt)(n:Nat):List (Nat×SObj):=[(900,.box (.arr 901 n 2)),(901,.box (.row (.st .stt) l))]
def KH(l:List Stt)(n:Nat)(tgt:Int)(s:Stt):Ans:=⟨some (0<=tgt/\tgt<n/\n=l.length),none,.bool (dm l tgt s),KG (cY l tgt s) n⟩
def GR:Pat:=fun args S=>
 match args,S with
 |[.int .i64 tgt,a,.ptr 900 0],[(900,.box (.arr 901 n 2)),(901,.box (.row (.st .stt) l))]=>(match arg (.st .stt) a with|some s=>some (KH l n tgt s)|none=>none)
 |_,_=>none
theorem GS[Tabs]{P:Program}{f:Nat}(he:au P f)(h:∀(l:List Stt)(n:Nat)(tgt:Int)(s:Stt),0<=tgt/\tgt<n/\n=l.length->aw P f [.int .i64 tgt,.st .stt s,.ptr 900 0] (KG l n) (KH l n tgt s)):ag P f GR:=by
 intro args S A hA ho _;unfold GR at hA;split at hA
 ·split at hA
  ·rename_i s hs;simp only[Xs]at hA;subst hA;exact⟨he,aw.args (.cons (Rd.refl _) (.cons (Rd.arg hs) (.cons (Rd.refl _) .nil))) (h _ _ _ _ (ho _ rfl))⟩
  ·cases hA
 ·cases hA
def qO(l:List Stt)(i:Int)(s:Stt)(goes:Bool)(bs:List Stt):Bool×List Stt×List Stt:=if goes=true then(dm l (i+1) s,cY l (i+1) s,bs)else(false,l,bs)
def kn(i:Int)(n:Nat)(s:Stt):List Int->List Stt->Bool×List Stt
 |[],l=>(true,l)
 |tgt::r,l=>if tgt<=i∨(n:Int)<tgt∨dm l tgt s=false then(false,l)else kn i n s r (cY l tgt s)
def s1F(o:Opn)(s:Stt):Stt:=⟨IntKind.i64.wrap (s.things+IntKind.i64.wrap ((jI o).2-(jI o).1)),s.names⟩
def xO(code:List Chnk)(o:Opn)(s:Stt):Stt:=⟨0,IntKind.i64.wrap (s.names+(code.getD o.n.toNat default).args)⟩
def gK(code:List Chnk)(k:Int)(b0:Stt)(n:Nat)(i:Int)(o:Opn)(l bs:List Stt):Bool:=
 if o.kind=4 then decide (o.n<(l.getD i.toNat default).names)
 else if o.kind=6 then !(decide (o.n<=k)||decide ((code.length:Int)<=o.n))&&!(decide (0<=(bs.getD o.n.toNat default).things)&&!pY (bs.getD o.n.toNat default) (xO code o (l.getD i.toNat default)))
 else if o.kind=13 then !decide (IntKind.i64.wrap ((l.getD i.toNat default).names-b0.names)<o.n)
 else if o.kind=15∨o.kind=14 then decide (i<o.n)&&decide (o.n<=(n:Int))&&dm l o.n (s1F o (l.getD i.toNat default))
 else if o.kind=16/\o.tos.length≠0 then(kn i n ⟨(s1F o (l.getD i.toNat default)).things,IntKind.i64.wrap ((l.getD i.toNat default).names+1)⟩ o.tos l).1
 else true
def gF(code:List Chnk)(k:Int)(b0:Stt)(n:Nat)(i:Int)(o:Opn)(l bs:List Stt):Bool:=
 if(l.getD i.toNat default).things<0∨lU o=false∨(l.getD i.toNat default).things<(jI o).1 then false else gK code k b0 n i o l bs
def lF(n:Nat)(i:Int)(o:Opn)(l:List Stt):List Stt:=
 if(o.kind=15∨o.kind=14)/\i<o.n/\o.n<=(n:Int)then cY l o.n (s1F o (l.getD i.toNat default))
 else if o.kind=16/\o.tos.length≠0 then(kn i n ⟨(s1F o (l.getD i.toNat default)).things,IntKind.i64.wrap ((l.getD i.toNat default).names+1)⟩ o.tos l).2
 else l
def sF(n:Nat)(i:Int)(o:Opn)(l:List Stt):Stt:=
 if o.kind=12 then⟨(s1F o (l.getD i.toNat default)).things,IntKind.i64.wrap ((l.getD i.toNat default).names+1)⟩
 else if o.kind=13 then⟨(s1F o (l.getD i.toNat default)).things,IntKind.i64.wrap ((l.getD i.toNat default).names-o.n)⟩
 else if o.kind=15∨o.kind=16/\o.tos.length≠0 then(lF n i o l).getD (i+1).toNat default
 else s1F o (l.getD i.toNat default)
def bF(code:List Chnk)(k:Int)(b0:Stt)(n:Nat)(i:Int)(o:Opn)(l bs:List Stt):List Stt:=
 if o.kind=6/\gF code k b0 n i o l bs=true then bs.set o.n.toNat (xO code o (l.getD i.toNat default))else bs
def uq(code:List Chnk)(k:Int)(b0:Stt)(n:Nat)(i:Int)(o:Opn)(l bs:List Stt):Bool×List Stt×List Stt:=
 qO (lF n i o l) i (sF n i o l) (gF code k b0 n i o l bs) (bF code k b0 n i o l bs)
def kF(code:List Chnk)(k:Int)(b0:Stt)(n:Nat):List Opn->Int->List Stt->List Stt->Bool×List Stt
 |[],_,l,bs=>(pY (l.getD n default) ⟨1,b0.names⟩,bs)
 |o::r,i,l,bs=>
  if(uq code k b0 n i o l bs).1=true then kF code k b0 n r (i+1) (uq code k b0 n i o l bs).2.1 (uq code k b0 n i o l bs).2.2 else(false,(uq code k b0 n i o l bs).2.2)
theorem pI(i:Int)(n:Nat)(s:Stt):∀(t:List Int)(l:List Stt),(kn i n s t l).2.length=l.length
 |[],l=>rfl
 |tgt::r,l=>by
  unfold kn;split
  ·rfl
  ·rw[pI i n s r,eU]
theorem ur(n:Nat)(i:Int)(o:Opn)(l:List Stt):(lF n i o l).length=l.length:=by
 unfold lF;split
 ·exact eU _ _ _
 ·split
  ·exact pI _ _ _ _ _
  ·rfl
theorem oN(code:List Chnk)(k:Int)(b0:Stt)(n:Nat)(i:Int)(o:Opn)(l bs:List Stt):(bF code k b0 n i o l bs).length=bs.length:=by unfold bF;split<;>simp
theorem CN{code:List Chnk}{k:Int}{b0:Stt}{n:Nat}{i:Int}{o:Opn}{l bs:List Stt}(r:List Opn)(h:gF code k b0 n i o l bs=false):kF code k b0 n (o::r) i l bs=(false,bs):=by
 have e:bF code k b0 n i o l bs=bs:=by unfold bF;rw[Mp (fun z=>by rw[h]at z;cases z.2)]
 unfold kF uq qO;simp only[h,e];rfl
theorem Av{code:List Chnk}{k:Int}{b0:Stt}{n:Nat}{i:Int}{o:Opn}{l bs:List Stt}(r:List Opn)(h:gF code k b0 n i o l bs=true) :
  kF code k b0 n (o::r) i l bs=if dm (lF n i o l) (i+1) (sF n i o l)=true then kF code k b0 n r (i+1) (cY (lF n i o l) (i+1) (sF n i o l)) (bF code k b0 n i o l bs)else(false,bF code k b0 n i o l bs):=by
 rw[kF];unfold uq qO;simp only[h,Nu]
theorem GU(l:List Stt)(t:Nat):l.set t (l.getD t default)=l:=by
 by_cases h:t<l.length
 ·have e:l.getD t default=l[t]:=by simp[h]
  rw[e,List.set_getElem_self]
 ·exact O9 (by omega)
theorem uu(l:List Stt)(t:Int):cY l t (l.getD t.toNat default)=l/\dm l t (l.getD t.toNat default)=true:=by
 have e:cY l t (l.getD t.toNat default)=l:=by
  unfold cY;split
  ·exact GU _ _
  ·rfl
 refine⟨e,?_⟩;unfold dm pY;rw[e];simp
theorem xP{code:List Chnk}{k:Int}{b0:Stt}{n:Nat}{i:Int}{o:Opn}{l bs:List Stt}(r:List Opn)(h:gF code k b0 n i o l bs=true)(hs:sF n i o l=(lF n i o l).getD (i+1).toNat default) :
  kF code k b0 n (o::r) i l bs=kF code k b0 n r (i+1) (lF n i o l) (bF code k b0 n i o l bs):=by
 rw[Av r h,hs,(uu _ _).1,(uu _ _).2,Mu rfl]
def iu(code:List Chnk)(k:Int):Chnk:=code.getD k.toNat default
def cC(code:List Chnk)(k:Int):Nat:=(iu code k).ops.length
def gn(m j:Nat):List Stt:=List.replicate j ⟨-1,0⟩++List.replicate (m-j) ⟨0,0⟩
def dt(code:List Chnk)(k:Int)(bs:List Stt):Bool×List Stt:=
 if dm (gn (cC code k+1) (cC code k+1)) 0 (bs.getD k.toNat default)=true then
  kF code k (bs.getD k.toNat default) (cC code k) (iu code k).ops 0 (cY (gn (cC code k+1) (cC code k+1)) 0 (bs.getD k.toNat default)) bs
 else(false,bs)
theorem fO{m j:Nat}(h:j<=m):(gn m j).length=m:=by simp[gn];omega
theorem uv{m j:Nat}(h:j<m):(gn m j).getD j default=⟨0,0⟩:=by unfold gn;rw[Ms,MB (by simp)];simp[List.getElem?_replicate,show 0<m-j by omega]
theorem xQ{m j:Nat}(h:j<m)(d:Stt):(gn m j).set j ⟨-1,0⟩=gn m (j+1):=by
 unfold gn;rw[Pn _ _ (by simp)];have e:m-j=(m-(j+1))+1:=by omega
 rw[e,List.replicate_succ];simp[List.replicate_succ',MH]
theorem tM(code:List Chnk)(k:Int)(bs:List Stt):(dt code k bs).2.length=bs.length:=by
 have h:∀(b0:Stt)(n:Nat)(r:List Opn)(i:Int)(l bs:List Stt),(kF code k b0 n r i l bs).2.length=bs.length:=by
  intro b0 n r
  induction r with
  |nil=>intro i l bs;rfl
  |cons o r ih=>
   intro i l bs
   cases hg:gF code k b0 n i o l bs with
   |false=>rw[CN r hg]
   |true=>
    rw[Av r hg];split
    ·rw[ih,oN]
    ·exact oN _ _ _ _ _ _ _ _
 unfold dt;split
 ·exact h _ _ _ _ _ _
 ·rfl
def Jd(code:List Chnk)(k:Int)(bs:List Stt)(n:Nat):Prop:=
 0<=k/\k<(code.length:Int)/\bs.length=code.length/\n=code.length/\cC code k<=4096/\∀o∈(iu code k).ops,o.names.length *16<=140737488355328/\o.tos.length<=140737488355328
def chkS(code:List Chnk)(bs:List Stt)(n:Nat):List (Nat×SObj):=[(900,.box (.agg [.lst (.st .chunk) code none,.arr 901 n 2])),(901,.box (.row (.st .stt) bs))]
def chkA(code:List Chnk)(k:Int)(bs:List Stt)(n:Nat):Ans:=⟨some (Jd code k bs n),none,.bool (dt code k bs).1,chkS code (dt code k bs).2 n⟩
def Li:Pat:=fun args S=>
 match args,S with
 |[.ptr 900 0,.int .i64 k],[(900,.box (.agg [.lst (.st .chunk) code none,.arr 901 n 2])),(901,.box (.row (.st .stt) bs))]=>some (chkA code k bs n)
 |_,_=>none
theorem Je[Tabs]{P:Program}{f:Nat}(he:au P f)(h:∀(code:List Chnk)(k:Int)(bs:List Stt)(n:Nat),Jd code k bs n->aw P f [.ptr 900 0,.int .i64 k] (chkS code bs n) (chkA code k bs n)):ag P f Li:=by
 intro args S A hA ho _;unfold Li at hA;split at hA
 ·simp only[Xs]at hA;subst hA;exact⟨he,h _ _ _ _ (ho _ rfl)⟩
 ·cases hA
def Jf(S0:St)(i j:Nat)(f:List Stt->Stt->LA):LA:=
 match ak S0.b i,ak S0.b j with
 |some (.box (.row (.st .stt) l)),some (.box c)=>(match arg (.st .stt) c with|some s=>f l s|none=>⟨Nat,fun _=>False,fun _=>[],fun _=>[],fun _=>0⟩)
 |_,_=>⟨Nat,fun _=>False,fun _=>[],fun _=>[],fun _=>0⟩
def Lj(S0:St)(f:Int->List Stt->List Stt->List (Nat×AV)×List (Nat×SObj)):List (Nat×AV)×List (Nat×SObj):=
 match aK S0.t 55,ak S0.b 37,ak S0.b 901 with
 |.int _ i,some (.box (.row (.st .stt) l)),some (.box (.row (.st .stt) bs))=>f i l bs
 |_,_,_=>([],[])
def sq(l:List Chnk):Prop:=(pX l).length<=8796093022208
def eJ:List Chnk->Int->Bool
 |[],_=>true
 |c::r,z=>if c.args<0∨4096<c.args∨4096-z<(c.ops.length:Int)then false else eJ r (z+c.ops.length)
def bg0(n:Nat)(scope:Int):List Stt:=(gn n n).set 0 ⟨0,scope⟩
def oO(code:List Chnk):Nat->Nat->List Stt->Bool
 |0,_,_=>true
 |r+1,k,bs=>if(bs.getD k default).things<0 then false else if(dt code k bs).1=true then oO code r (k+1) (dt code k bs).2 else false
def oP(code:List Chnk)(scope:Int):Int:=
 if scope<0∨1000000<scope∨code.length=0∨4096<code.length∨(code.getD 0 default).args≠0 then 310
 else if eJ code 0=false then 310
 else if oO code code.length 0 (bg0 code.length scope)=true then 0 else 310
theorem Aw(n:Nat)(scope:Int):(bg0 n scope).length=n:=by unfold bg0;rw[Ob,fO (Mx _)]
theorem CO{α:Type}(l:List α)(k:Nat)(d:α)(h:k<l.length):l.getD k d=l[k]:=by rw[Ms,Mn h];rfl
theorem Jg{l:List Chnk}(h:sq l){c:Chnk}(hc:c∈l){o:Opn}(ho:o∈c.ops):o.names.length *16<=140737488355328/\o.tos.length<=140737488355328:=by
 have a:(mg c).length<=(pX l).length:=by obtain⟨k,hk,e⟩:=Ol.1 hc;have a:=xM hk;rw[CO _ _ _ hk,e]at a;exact a
 have b:(jo o).length<=(mg c).length:=by obtain⟨k,hk,e⟩:=Ol.1 ho;have a:=xN hk;rw[CO _ _ _ hk,e]at a;exact a
 have d:=(sj o).2.1;have e:=vX o.names;have f:=so o;unfold sq at h;omega
end Go.Pd
end
section
namespace Go.Pd
open Go.AL
def p0(A:Ans):Pat
 |[],[]=>some A
 |_,_=>none
theorem Md[Tabs]{P:Program}{f:Nat}{A:Ans}(he:au P f)(h:aw P f [] [] A):ag P f (p0 A):=by
 intro args S A' hA _ _;unfold p0 at hA;split at hA
 ·simp only[Xs]at hA;subst hA;exact⟨he,h⟩
 ·cases hA
end Go.Pd
end
noncomputable section
namespace Go.Pd
open Go Go.AL
def Lk(s:Str)(p:Int)(b:Bool):List (Nat×SObj):=[(900,.box (.agg [.str s,.int .i64 p,.bool b]))]
def Jh(F:Str->Int->Bool->Ans):Pat:=fun args S=>
 match args,S with
 |[.ptr 900 0],[(900,.box (.agg [.str s,.int .i64 p,.bool b]))]=>some (F s p b)
 |_,_=>none
theorem CP[Tabs]{P:Program}{f:Nat}{F:Str->Int->Bool->Ans}(he:au P f)
 (h:∀s p b,(∀q,(F s p b).ob=some q->q)->aw P f [.ptr 900 0] (Lk s p b) (F s p b)):ag P f (Jh F):=by
 intro args S A hA ho _;unfold Jh at hA;split at hA
 ·simp only[Xs]at hA;subst hA;exact⟨he,h _ _ _ ho⟩
 ·cases hA
def tkA(s:Str)(p:Int)(b:Bool):Ans:=⟨none,none,.int .i64 (tkN s p b).1,Lk s (tkN s p b).2.1 (tkN s p b).2.2⟩
def opA(s:Str)(p:Int)(b:Bool):Ans:=⟨some (AtS s p/\s.length<=68719476736),none,.st .op (opF s p b).1,Lk s (opF s p b).2.1 (opF s p b).2.2⟩
def Ji(S0:St)(i:Nat)(f:Int->Bool->LA):LA:=match ak S0.b i with|some (.box (.agg [.str _,.int .i64 p,.bool b]))=>f p b|_=>⟨Nat,fun _=>False,fun _=>[],fun _=>[],fun _=>0⟩
def Jj(S0:St)(i:Nat)(f:Int->LA):LA:=match ak S0.b i with|some (.box (.agg [.int .i64 a,_]))=>f a|_=>⟨Nat,fun _=>False,fun _=>[],fun _=>[],fun _=>0⟩
def lv(l:List Chnk):Str×Int:=if oP l 1000≠0 then([],310)else(pX l,0)
def mh(s:Str):List Chnk×Int:=
 if(nL s).2.2=true∨(nL s).2.1≠s.length then([],310)else if(lv (nL s).1).2≠0∨(lv (nL s).1).1≠s then([],310)else((nL s).1,0)
end Go.Pd
end
noncomputable section
namespace Go.Pd
open Go Go.AL
theorem eqN{a b:Nat}(h:¬(!decide ((a:Int)=(b:Int)))=true):a=b:=by simp at h;omega
def du{α:Type}(f:α->α->Bool):List α->List α->Bool
 |a::r,b::t=>f a b&&du f r t
 |_,_=>true
def lx(a b:List Str):Bool:=decide (a.length=b.length)&&du (fun x y=>decide (x=y)) a b
def gi(x y:Opn):Bool:=
 decide (x.kind=y.kind)&&decide (x.n=y.n)&&decide (x.name=y.name)&&decide (x.pos=y.pos)&&decide (x.tos.length=y.tos.length)&&(du (fun x y=>decide (x=y)) x.tos y.tos&&lx x.names y.names)
def jJ(c d:Chnk):Bool:=decide (c.args=d.args)&&decide (c.ops.length=d.ops.length)&&du gi c.ops d.ops
def su(a b:List Chnk):Bool:=decide (a.length=b.length)&&du jJ a b
theorem lV{α:Type}{f:α->α->Bool}(h:∀x,f x x=true):∀l:List α,du f l l=true
 |[]=>rfl
 |a::r=>by unfold du;rw[h,lV h r];rfl
theorem nN{α:Type}(f:α->α->Bool)(l:List α):du f [] l=true:=by cases l<;>rfl
theorem zipE{α:Type}[DecidableEq α](l:List α):du (fun x y=>decide (x=y)) l l=true:=lV (f:=fun x y=>decide (x=y)) (fun x=>Xd rfl) l
theorem xR(l:List Str):lx l l=true:=by unfold lx;rw[zipE];simp
theorem Ax(x:Opn):gi x x=true:=by unfold gi;rw[zipE,xR];simp
theorem Ay(c:Chnk):jJ c c=true:=by unfold jJ;rw[lV Ax];simp
theorem Az(l:List Chnk):su l l=true:=by unfold su;rw[lV Ay];simp
theorem lW{α:Type}(f:α->α->Bool)(a b:List α)(k:Nat)(d:α)(h:k<a.length)(h2:k<b.length) :
  du f (a.drop k) (b.drop k)=(f (a.getD k d) (b.getD k d)&&du f (a.drop (k+1)) (b.drop (k+1))):=by
 rw[aU a k d h,aU b k d h2];rfl
end Go.Pd
end
section
namespace Go.AL
open Go.Shelf Go.Proofs Go.RowKit
variable [Tabs] {P:Program} {ρ:Ren}
theorem After.newRow{w w':World}{pub:Nat->Nat->Prop}{e:Nat->Option CObj}(hp:kD w pub)(hd:∀id,e id=none)(hb:Below w.heap.size w w'){g:Nat}(hg:w.heap.size<=g){p:Nat->Prop}(hc:∀o,p o->∃v,w'.cell? ⟨g,o,none⟩=some v) :
  After w pub e (ak (ca [] [])) w' (fun b o=>pub b o∨(b=g/\p o)) e where
 os:=hb.os
 tape:=hb.tape
 output:=hb.output
 size:=hb.size
 block b h _:=hb.block b h
 cell b o h _:=aj (hb.block b h) o
 kind b h _:=⟨ba (hb.block b h),fun o=>aM (hb.block b h) o⟩
 ext:=⟨fun _ c h=>⟨c,h,CLe.refl c⟩,fun _ _ h=>.inl h,fun b o h=>by obtain⟨v,hv⟩:=hp b o h;exact aj (hb.block b (aT hv)) o⟩
 fresh b o h:=by
  rcases h with h|⟨rfl,_⟩
  ·exact .inl h
  ·exact .inr (.inl hg)
 ok b o h:=by
  rcases h with h|⟨rfl,h⟩
  ·obtain⟨v,hv⟩:=hp b o h;exact⟨v,(aj (hb.block b (aT hv)) o).trans hv⟩
  ·exact hc o h
 slots id o h:=by simp[ca,aL,aI]at h
 dom id _:=hd id
 inj i j c d b o h:=by rw[hd i]at h;cases h
theorem xS(L:Lays2.n16 P ρ)(l:List Str)(hb:l.length *16<=140737488355328){ob:Option Prop}:aw P (ρ.f 16) [.lst .str l none] [] ⟨ob,none,.lst .str l none,[]⟩:=by
 intro w pub e vs hp ht hv hs hd hi;have he:e=fun _=>none:=funext fun id=>hd id rfl;subst he;obtain⟨v,rfl,hV⟩:=hv.one_inv
 cases hV with
 |lstNil _ _ tok=>refine(Any.slices_Clone_string_nil L 0 0 w).mono ?_;rintro en w' ⟨rfl,rfl⟩;exact⟨pub,_,fun b pv u h=>(by cases h),.lstNil _ _ tok,After.below hp (fun _=>rfl) (Below.refl _ _)⟩
 |lstVoid _ a=>
  refine(Any.slices_Clone_string_zero L a 0 w).mono ?_;rintro en w' ⟨v',rfl,⟨hl,hrow⟩,hn,hbw⟩;refine⟨pub,_,fun b pv u h=>(by cases h),?_,After.below hp (fun _=>rfl) hbw⟩;rcases hrow with⟨rfl,hz⟩|⟨g,cap,cur,rfl,hbase,hg,h1,h2,h3,h4⟩
  ·exact absurd rfl hn
  ·exact .lst .str [] none g 0 cap (fun _ _=>.bool false) (ME _) (by unfold maxLen at h2;unfold b9;omega) (fun id h=>by cases h) (fun i x hx=>by cases hx) (fun i x hx=>by cases hx)
 |lst _ _ _ b off cap vals h1 h2 tok hcell hval=>
  have at_:∀i (hi:i<l.length),w.cell? ⟨b,off+i,none⟩=some (.string ⟨l[i].toArray⟩)/\l[i].length<=b9:=fun i hi=>by have hx:l[i]?=some l[i]:=Mn hi;obtain⟨_,c1⟩:=hcell i l[i] hx 0 (.str l[i]) rfl;have c2:=hval i l[i] hx 0 (.str l[i]) rfl;obtain⟨c3,c4⟩:=c2.str_inv;rw[c3,show off+(i *ab .str+0)=off+i by rw[show ab .str=1 from rfl];omega]at c1;exact⟨c1,c4⟩
  refine(Any.slices_Clone_string L b off l.length cap (l.map fun s=>(⟨s.toArray⟩:ByteArray)) w (by simp) hb (fun j hj=>?_)).mono ?_
  ·have hj':j<l.length:=by simpa using hj
   rw[(at_ j hj').1,Ms,MS,Mn hj'];rfl
  rintro en w' ⟨v',rfl,⟨hl,hrow⟩,hn,hbw⟩;rcases hrow with⟨rfl,hz⟩|⟨g,cap',cur,rfl,hbase,hg,k1,k2,k3,k4⟩
  ·exact absurd rfl hn
  have hcur:∀i (hi:i<l.length),cur[i]?=some (.string ⟨l[i].toArray⟩):=fun i hi=>by
   have:(cur.toList.take (l.length *1))[i]?=some (.string ⟨l[i].toArray⟩):=by rw[k4,MS,MQ];simp[hi]
   rw[MQ]at this;split at this
   ·simpa using this
   ·cases this
  refine⟨fun b o=>pub b o∨(b=g/\o<l.length),_,fun b pv u h=>(by cases h),?_,After.newRow hp (fun _=>rfl) hbw hbase (p:=fun o=>o<l.length) (fun o ho=>⟨_,by rw[aq hg];exact hcur o ho⟩)⟩;refine .lst .str l none g 0 cap' (fun i _=>.string ⟨(l.getD i []).toArray⟩) k1 (by unfold maxLen at k2;unfold b9;omega) (fun id h=>by cases h) (fun i x hx j c hc=>?_) (fun i x hx j c hc=>?_)
  ·obtain⟨hi,rfl⟩:=Nb.1 hx
   have hj:j=0:=by
    cases j with|zero=>rfl|succ j=>simp[cells]at hc
   subst hj;rw[show 0+(i *ab .str+0)=i by rw[show ab .str=1 from rfl];omega];refine⟨.inr ⟨rfl,hi⟩,?_⟩;show w'.cell? ⟨g,i,none⟩=_;rw[aq hg,hcur i hi,Ms,Mn hi];rfl
  ·obtain⟨hi,rfl⟩:=Nb.1 hx
   have hj:j=0:=by
    cases j with|zero=>rfl|succ j=>simp[cells]at hc
   subst hj;have e1:c=.str l[i]:=by simpa[cells]using hc.symm
   subst e1;rw[Ms,Mn hi];exact .str _ (at_ i hi).2
def xT:Pat:=p1 (.lst .str) fun l=>⟨some (l.length *16<=140737488355328),none,.lst .str l none,[]⟩
theorem xU{f:Nat}(L:Lays2.n16 P ρ)(hf:ρ.f 16=f)(he:au P f):ag P f xT:=by subst hf;exact aW he fun l _ ho=>xS L l (ho _ rfl)
end Go.AL
end
noncomputable section
namespace Go.Pd
open Go Go.AL
def nm0(s:Str):Nam:=⟨[],s⟩
def dG(sc:List Nam)(t:Trm):Nat->Opn
 |0=>⟨5,110,[],[],[],t.pos⟩
 |k+1=>if(sc.getD k default).pkg=t.pkg/\(sc.getD k default).name=t.name then⟨4,(sc.length:Int)-1-k,[],[],[],t.pos⟩else dG sc t k
def mE(sc:List Nam)(t:Trm):Opn:=dG sc t sc.length
def eV(t:Trm):Opn×Bool:=
 if t.kind=7 then(⟨7,(t.parts.length:Int)-1,[],[],[],t.pos⟩,true)
 else if t.kind=8 then(⟨8,0,[],t.names,[],t.pos⟩,true)
 else if t.kind=9 then(⟨9,0,t.name,[],[],t.pos⟩,true)
 else if t.kind=10 then(⟨10,0,t.name,[],[],t.pos⟩,true)
 else if t.kind=11 then(⟨11,t.parts.length,[],[],[],t.pos⟩,true)
 else if t.kind=16 then(⟨17,0,t.name,[],[],t.pos⟩,true)
 else if t.kind=17 then(⟨18,0,t.name,[],[],t.pos⟩,true)
 else(default,false)
def setN(ops:List Opn)(k n:Int):List Opn:=ops.set k.toNat {(ops.getD k.toNat default)with n:=n}
def setTo(ops:List Opn)(k:Int)(l:List Int):List Opn:=ops.set k.toNat {(ops.getD k.toNat default)with tos:=l}
def setAll(n:Int):List Int->List Opn->List Opn
 |[],ops=>ops
 |k::r,ops=>setAll n r (setN ops k n)
abbrev CS:=List Opn×List Chnk
def fP(T:Trm->List Nam->CS->CS)(sc:List Nam):List Trm->CS->CS
 |[],s=>s
 |t::r,s=>fP T sc r (T t sc s)
def jK(T:Trm->List Nam->CS->CS)(t:Trm)(sc:List Nam)(s:CS):CS:=
 let r:=T (t.parts.getD 0 default) (sc++t.names.map nm0) ([],s.2++[⟨t.names.length,[]⟩])
 (s.1,r.2.set s.2.length {(r.2.getD s.2.length default)with ops:=r.1})
def fB(T:Trm->List Nam->CS->CS)(t:Trm)(sc:List Nam):Nat->Nat->List Int->List Int->CS->List Int×List Int×CS
 |0,_,to_,js,s=>(to_,js,s)
 |k+1,i,to_,js,s=>
  let r:=T (t.parts.getD (i+1) default) (sc++[nm0 (t.vars.getD i [])]) s
  fB T t sc k (i+1) (to_++[(s.1.length:Int)]) (js++[(r.1.length:Int)+1]) (r.1++[⟨13,1,[],[],[],t.pos⟩,⟨15,0,[],[],[],t.pos⟩],r.2)
def nO(T:Trm->List Nam->CS->CS)(t:Trm)(sc:List Nam)(s:CS):CS:=
 let a:=T (t.parts.getD 0 default) sc s
 let r:=fB T t sc t.names.length 0 [] [] (a.1++[⟨16,0,[],t.names,[],t.pos⟩],a.2)
 (setAll r.2.2.1.length r.2.1 (setTo r.2.2.1 a.1.length r.1),r.2.2.2)
def oQ(T:Trm->List Nam->CS->CS)(t:Trm)(sc:List Nam)(s:CS):CS:=
 let a:=T (t.parts.getD 0 default) sc s
 let b:=T (t.parts.getD 1 default) sc (a.1++[⟨14,0,[],[],[],t.pos⟩],a.2)
 let o:=b.1++[⟨15,0,[],[],[],t.pos⟩]
 let c:=T (t.parts.getD 2 default) sc (setN o a.1.length o.length,b.2)
 (setN c.1 b.1.length c.1.length,c.2)
def vY(T:Trm->List Nam->CS->CS)(t:Trm)(sc:List Nam)(s:CS):CS:=
 let a:=T (t.parts.getD 0 default) sc s
 let b:=T (t.parts.getD 1 default) (sc++[nm0 t.name]) (a.1++[⟨12,0,[],[],[],t.pos⟩],a.2)
 (b.1++[⟨13,1,[],[],[],t.pos⟩],b.2)
def tO(T:Trm->List Nam->CS->CS)(t:Trm)(sc:List Nam)(s:CS):CS:=
 let a:=fP T sc t.parts s
 if(eV t).2=true then(a.1++[(eV t).1],a.2)else a
def iP(T:Trm->List Nam->CS->CS)(t:Trm)(sc:List Nam)(s:CS):CS:=
 if t.kind=1 then(s.1++[⟨1,t.n,[],[],[],t.pos⟩],s.2)
 else if t.kind=2 then(s.1++[⟨2,0,t.name,[],[],t.pos⟩],s.2)
 else if t.kind=3 then(s.1++[⟨3,1,[],[],[],t.pos⟩],s.2)
 else if t.kind=4 then(s.1++[⟨3,0,[],[],[],t.pos⟩],s.2)
 else if t.kind=5 then(s.1++[mE sc t],s.2)
 else if t.kind=6 then((jK T t sc s).1++[⟨6,s.2.length,[],[],[],t.pos⟩],(jK T t sc s).2)
 else if t.kind=12 then oQ T t sc s
 else if t.kind=13 then nO T t sc s
 else if t.kind=14 then vY T t sc s
 else tO T t sc s
def aX:Nat->Trm->List Nam->CS->CS
 |0,_,_,s=>s
 |n+1,t,sc,s=>iP (aX n) t sc s
def mj(W:Trm->Nat)(l:List Trm):Nat:=(l.map W).sum
def sw(W:Trm->Nat)(t:Trm):Nat:=
 if t.kind=1∨t.kind=2∨t.kind=3∨t.kind=4∨t.kind=5∨t.kind=6 then 0
 else if t.kind=12 then W (t.parts.getD 0 default)+W (t.parts.getD 1 default)+W (t.parts.getD 2 default)
 else if t.kind=13 then W (t.parts.getD 0 default)+mj (fun i=>W i+1) ((List.range t.names.length).map fun i=>t.parts.getD (i+1) default)
 else if t.kind=14 then W (t.parts.getD 0 default)+W (t.parts.getD 1 default)+1
 else mj W t.parts
def wN:Nat->Trm->Nat
 |0,_=>0
 |n+1,t=>sw (wN n) t
end Go.Pd
namespace Go.AL
open Go
theorem Wf.pt[Tabs]{n:SN}{x:SD n}(h:Wf (.pt n) (some x)):Wf (.st n) x:=by
 obtain⟨Ω,v,hv⟩:=h
 cases hv with
 |ptSome _ _ _ hc=>
  cases hc with
  |cptr _ b off vals h1 h2=>
   refine⟨Ω,.agg ((List.range (cells (.st n) x).length).map vals).toArray,.st n x _ (.agg _ _ (by simp) fun j c v hc hv=>?_)⟩
   have hlt:j<(cells (.st n) x).length:=by
    rcases Mz j (cells (.st n) x).length with q|q
    ·exact q
    ·rw[Mt q]at hc;cases hc
   rw[MS,List.getElem?_range hlt]at hv;simp only[NB,Xs]at hv;rw[<-hv];exact h2 j c hc
end Go.AL
namespace Go.Pd
open Go Go.AL
theorem rdC[Tabs]{n:SN}{c:AV}{x:SD n}(h:arg (.st n) c=some x):Rd (.cptr c) (.cptr (.st n x)):=by
 intro Ω v hv;have hr:=mH (.st n) h
 cases hv with
 |cptr _ b off vals h1 h2=>
  have key:∀(j:Nat)(d:AV),(cells (.st n) x)[j]?=some d->∃c',(ae c)[j]?=some c'/\Rd c' d:=fun j d hd=>by
   have hlt:j<(ae c).length:=by
    rw[hr.1];rcases Mz j (cells (.st n) x).length with q|q
    ·exact q
    ·rw[Mt q]at hd;cases hd
   exact⟨_,Mn hlt,hr.2 j _ d (Mn hlt) hd⟩
  refine .cptr _ b off vals (fun j d hd=>?_) (fun j d hd=>?_)
  ·obtain⟨c',hc,_⟩:=key j d hd;exact h1 j c' hc
  ·obtain⟨c',hc,r⟩:=key j d hd;exact r _ _ (h2 j c' hc)
theorem wfC[Tabs]{n:SN}{x:SD n}(h:∃Ω v,V Ω (.cptr (.st n x)) v):Wf (.st n) x:=by obtain⟨Ω,v,h⟩:=h;exact Wf.pt ⟨Ω,v,.ptSome _ _ _ h⟩
def ko(s:Nat)(sc:List Nam)(x:CS):List (Nat×SObj):=
 [(900,.box (.agg [.glst x.1.length x.1.length 901,.glst s sc.length 902,.ptr 903 0])),(901,.grow (.st .op) x.1.length x.1),(902,.grow (.st .nm) s sc),(903,.box (.glst x.2.length x.2.length 904)),(904,.grow (.st .chunk) x.2.length x.2)]
def iT(F:Nat->List Nam->CS->Trm->Ans):Pat:=fun args S=>
 match args,S with
 |[.ptr 900 0,.cptr a],[(900,.box (.agg [.glst s1 n1 901,.glst s n 902,.ptr 903 0])),(901,.grow (.st .op) s1' xs),(902,.grow (.st .nm) s' sc),(903,.box (.glst s3 n3 904)),(904,.grow (.st .chunk) s3' ch)]=>
  (match arg (.st .term) a with
  |some t=>some {F s' sc (xs,ch) t with ob:=some ((s1=xs.length/\n1=xs.length/\s1'=xs.length)/\(s=s'/\n=sc.length)/\(s3=ch.length/\n3=ch.length/\s3'=ch.length)/\∀q,(F s' sc (xs,ch) t).ob=some q->q)}
  |none=>none)
 |_,_=>none
theorem lX[Tabs]{P:Program}{f:Nat}{F:Nat->List Nam->CS->Trm->Ans}(he:au P f)(h:∀s sc x t,Wf (.st .term) t->(∀q,(F s sc x t).ob=some q->q)->aw P f [.ptr 900 0,.cptr (.st .term t)] (ko s sc x) (F s sc x t)):ag P f (iT F):=by
 intro args S A hA ho _;unfold iT at hA;split at hA
 ·split at hA
  ·rename_i t ht;simp only[Xs]at hA;subst hA;obtain⟨⟨rfl,rfl,rfl⟩,⟨rfl,rfl⟩,⟨rfl,rfl,rfl⟩,hb⟩:=ho _ rfl;exact⟨he,aw.args (.cons (Rd.refl _) (.cons (rdC ht) .nil)) (aw.wf fun hw=>h _ _ _ _ (wfC hw.cons.2.cons.1) hb)⟩
  ·cases hA
 ·cases hA
def pCp(F:Trm->Ans):Pat:=fun args S=>
 match args,S with
 |[.cptr a],[]=>(match arg (.st .term) a with|some t=>some (F t)|none=>none)
 |_,_=>none
theorem Ll[Tabs]{P:Program}{f:Nat}{F:Trm->Ans}(he:au P f)(h:∀t,Wf (.st .term) t->(∀q,(F t).ob=some q->q)->aw P f [.cptr (.st .term t)] [] (F t)):ag P f (pCp F):=by
 intro args S A hA ho _;unfold pCp at hA;split at hA
 ·split at hA
  ·rename_i t ht;simp only[Xs]at hA;subst hA;exact⟨he,aw.args (.cons (rdC ht) .nil) (aw.wf fun hw=>h _ (wfC hw.cons.1) ho)⟩
  ·cases hA
 ·cases hA
def Jk(F:Nat->List Nam->CS->Str->Trm->Ans):Pat:=fun args S=>
 match args,S with
 |[.ptr 900 0,.str nm,.cptr a],[(900,.box (.agg [.glst s1 n1 901,.glst s n 902,.ptr 903 0])),(901,.grow (.st .op) s1' xs),(902,.grow (.st .nm) s' sc),(903,.box (.glst s3 n3 904)),(904,.grow (.st .chunk) s3' ch)]=>
  (match arg (.st .term) a with
  |some t=>some {F s' sc (xs,ch) nm t with ob:=some ((s1=xs.length/\n1=xs.length/\s1'=xs.length)/\(s=s'/\n=sc.length)/\(s3=ch.length/\n3=ch.length/\s3'=ch.length)/\∀q,(F s' sc (xs,ch) nm t).ob=some q->q)}
  |none=>none)
 |_,_=>none
theorem Jl[Tabs]{P:Program}{f:Nat}{F:Nat->List Nam->CS->Str->Trm->Ans}(he:au P f)(h:∀s sc x nm t,Wf (.st .term) t->(∀q,(F s sc x nm t).ob=some q->q)->aw P f [.ptr 900 0,.str nm,.cptr (.st .term t)] (ko s sc x) (F s sc x nm t)):ag P f (Jk F):=by
 intro args S A hA ho _;unfold Jk at hA;split at hA
 ·split at hA
  ·rename_i t ht;simp only[Xs]at hA;subst hA;obtain⟨⟨rfl,rfl,rfl⟩,⟨rfl,rfl⟩,⟨rfl,rfl,rfl⟩,hb⟩:=ho _ rfl;exact⟨he,aw.args (.cons (Rd.refl _) (.cons (Rd.refl _) (.cons (rdC ht) .nil))) (aw.wf fun hw=>h _ _ _ _ _ (wfC hw.cons.2.cons.2.cons.1) hb)⟩
  ·cases hA
 ·cases hA
def CQ(F:Nat->List Nam->CS->List Trm->Ans):Pat:=fun args S=>
 match args,S with
 |[.ptr 900 0,a],[(900,.box (.agg [.glst s1 n1 901,.glst s n 902,.ptr 903 0])),(901,.grow (.st .op) s1' xs),(902,.grow (.st .nm) s' sc),(903,.box (.glst s3 n3 904)),(904,.grow (.st .chunk) s3' ch)]=>
  (match arg (.lst (.st .term)) a with
  |some l=>some {F s' sc (xs,ch) l with ob:=some ((s1=xs.length/\n1=xs.length/\s1'=xs.length)/\(s=s'/\n=sc.length)/\(s3=ch.length/\n3=ch.length/\s3'=ch.length)/\∀q,(F s' sc (xs,ch) l).ob=some q->q)}
  |none=>none)
 |_,_=>none
theorem GV[Tabs]{P:Program}{f:Nat}{F:Nat->List Nam->CS->List Trm->Ans}(he:au P f)(h:∀s sc x l,Wf (.lst (.st .term)) l->(∀q,(F s sc x l).ob=some q->q)->aw P f [.ptr 900 0,.lst (.st .term) l none] (ko s sc x) (F s sc x l)):ag P f (CQ F):=by
 intro args S A hA ho _;unfold CQ at hA;split at hA
 ·split at hA
  ·rename_i l hl;simp only[Xs]at hA;subst hA;obtain⟨⟨rfl,rfl,rfl⟩,⟨rfl,rfl⟩,⟨rfl,rfl,rfl⟩,hb⟩:=ho _ rfl;exact⟨he,aw.args (.cons (Rd.refl _) (.cons (Rd.arg hl) .nil)) (aw.wf fun hw=>h _ _ _ _ hw.two hb)⟩
  ·cases hA
 ·cases hA
def fQ(t:Trm):Bool:=decide (t.names.length<=1048576)&&
 (if t.kind=6 then decide (1<=t.parts.length)else if t.kind=12 then decide (3<=t.parts.length)else if t.kind=13 then decide (t.names.length+1<=t.parts.length)&&decide (t.names.length<=t.vars.length)else if t.kind=14 then decide (2<=t.parts.length)else true)
def CmO(n:Nat)(sc:List Nam)(x:CS)(t:Trm):Prop:=szT t<=n/\allT fQ t=true/\x.1.length+4000000 *szT t<=1000000000000/\sc.length+2000000 *szT t<=1000000000000/\x.2.length+szT t<=1000000000000
def CmL(n:Nat)(sc:List Nam)(x:CS)(l:List Trm):Prop:=szTL l<=n/\(∀t∈l,allT fQ t=true)/\x.1.length+4000000 *szTL l<=1000000000000/\sc.length+2000000 *szTL l<=1000000000000/\x.2.length+szTL l<=1000000000000
def vZ(W:Trm->Nat)(t:Trm)(i:Nat):Nat:=mj (fun u=>W u+1) ((List.range i).map fun j=>t.parts.getD (j+1) default)
def xV(n:Nat)(t:Trm)(sc:List Nam)(x:CS):CS:=((aX n (t.parts.getD 0 default) sc x).1++[⟨16,0,[],t.names,[],t.pos⟩],(aX n (t.parts.getD 0 default) sc x).2)
def xW(n:Nat)(t:Trm)(sc:List Nam)(x:CS)(i:Nat)(js:List Int)(y:CS):Prop:=
 y.1.length+4000000 *(szTL (t.parts.drop (i+1)))+(t.names.length-i) *2<=1000000000000/\y.2.length+szTL (t.parts.drop (i+1))<=1000000000000/\(xV n t sc x).1.length<=y.1.length/\∀j∈js,0<=j/\j<(y.1.length:Int)
def Jm(S0:St)(f:List Int->Nat->CS->LA):LA:=
 match aK S0.t 91,ak S0.b 900,ak S0.b 901,ak S0.b 904 with
 |.lst (.int .i64) js _,some (.box (.agg [_,.glst s _ _,_])),some (.grow (.st .op) _ ops),some (.grow (.st .chunk) _ ch)=>f js s (ops,ch)
 |_,_,_,_=>⟨Nat,fun _=>False,fun _=>[],fun _=>[],fun _=>0⟩
def cmA(n s:Nat)(sc:List Nam)(x:CS)(t:Trm):Ans:=⟨some (CmO n sc x t),none,.tup [],ko (s+2 *wN n t) sc (aX n t sc x)⟩
def CmK(n k:Nat)(sc:List Nam)(x:CS)(t:Trm):Prop:=t.kind=k/\CmO (n+1) sc x t
def wK(n:Nat)(t:Trm):Nat:=sw (wN n) t
def Lm(n s:Nat)(sc:List Nam)(x:CS)(t:Trm):Ans:=⟨some (CmK n 6 sc x t),none,.int .i64 x.2.length,ko s sc (jK (aX n) t sc x)⟩
def Ln(n s:Nat)(sc:List Nam)(x:CS)(t:Trm):Ans:=⟨some (CmK n 12 sc x t),none,.tup [],ko (s+2 *wK n t) sc (oQ (aX n) t sc x)⟩
def Lo(n s:Nat)(sc:List Nam)(x:CS)(t:Trm):Ans:=⟨some (CmK n 13 sc x t),none,.tup [],ko (s+2 *wK n t) sc (nO (aX n) t sc x)⟩
def Lp(n s:Nat)(sc:List Nam)(x:CS)(nm:Str)(t:Trm):Ans:=⟨some (CmO n (sc++[nm0 nm]) x t),none,.tup [],ko (s+2 *(wN n t+1)) sc (aX n t (sc++[nm0 nm]) x)⟩
def GW(n s:Nat)(sc:List Nam)(x:CS)(l:List Trm):Ans:=⟨some (CmL n sc x l),none,.tup [],ko (s+2 *mj (wN n) l) sc (fP (aX n) sc l x)⟩
def Lq:Pat:=fun args S=>
 match args,S with
 |[.glst s n 900],[(900,.grow (.st .nm) s' sc)]=>some ⟨some ((s=s'/\n=sc.length)/\sc.length *32<=140737488355328),none,.glst sc.length sc.length 5,[(5,.grow (.st .nm) sc.length sc)]⟩
 |_,_=>none
theorem Jn[Tabs]{P:Program}{f:Nat}(he:au P f)(h:∀(s:Nat)(sc:List Nam),sc.length *32<=140737488355328->aw P f [.glst s sc.length 900] [(900,.grow (.st .nm) s sc)] ⟨none,none,.glst sc.length sc.length 5,[(5,.grow (.st .nm) sc.length sc)]⟩):ag P f Lq:=by
 intro args S A hA ho _;unfold Lq at hA;split at hA
 ·simp only[Xs]at hA;subst hA;obtain⟨⟨rfl,rfl⟩,hb⟩:=ho _ rfl;exact⟨he,h _ _ hb⟩
 ·cases hA
def nmB(b:Bndg):Nam:=⟨b.pkg,b.name⟩
def ch0:List Chnk:=[⟨0,[]⟩]
def El(n:Nat)(t:Trm)(l:List Bndg):List Chnk:=let r:=aX n t (l.map nmB) ([],ch0);r.2.set 0 {(r.2.getD 0 default)with ops:=r.1}
def AA(n:Nat)(t:Trm)(l:List Bndg):Prop:=cX t=true/\l.length<=1000000/\(aZ t=0->CmO n (l.map nmB) ([],ch0) t)
def comA(n:Nat)(t:Trm)(l:List Bndg):Ans:=⟨some (AA n t l),none,.tup [.lst (.st .chunk) (if aZ t≠0 then[]else El n t l) none,.int .i64 (aZ t)],[]⟩
def wrS(s:Nat)(xs:List Opn):List (Nat×SObj):=[(900,.box (.agg [.glst s xs.length 901])),(901,.grow (.st .op) s xs)]
def wrA(s n s':Nat)(xs ys:List Opn):Ans:=⟨some ((s=s'/\n=xs.length)/\(xs.length+ys.length) *88<=140737488355328),none,.int .i64 ((xs.length:Int)+ys.length-1),
 [(900,.box (.glst (s'+ys.length) (xs++ys).length 901)),(901,.grow (.st .op) (s'+ys.length) (xs++ys))]⟩
def Lr:Pat:=fun args S=>
 match args,S with
 |[.ptr 900 0,a],[(900,.box (.agg [.glst s n 901])),(901,.grow (.st .op) s' xs)]=>(match arg (.lst (.st .op)) a with|some ys=>some (wrA s n s' xs ys)|none=>none)
 |_,_=>none
theorem Jo[Tabs]{P:Program}{f:Nat}(he:au P f)(h:∀(s:Nat)(xs ys:List Opn),(xs.length+ys.length) *88<=140737488355328->aw P f [.ptr 900 0,.lst (.st .op) ys none] (wrS s xs) (wrA s xs.length s xs ys)):ag P f Lr:=by
 intro args S A hA ho _;unfold Lr at hA;split at hA
 ·split at hA
  ·rename_i ys hy;simp only[Xs]at hA;subst hA;obtain⟨⟨rfl,rfl⟩,hb⟩:=ho _ rfl;exact⟨he,aw.args (.cons (Rd.refl _) (.cons (Rd.arg hy) .nil)) (h _ _ _ hb)⟩
  ·cases hA
 ·cases hA
def hrA(s n s':Nat)(xs:List Opn):Ans:=⟨some (s=s'/\n=xs.length),none,.int .i64 xs.length,[(900,.box (.agg [.glst s xs.length 901])),(901,.grow (.st .op) s xs)]⟩
def GX:Pat:=fun args S=>
 match args,S with
 |[.ptr 900 0],[(900,.box (.agg [.glst s n 901])),(901,.grow (.st .op) s' xs)]=>some (hrA s n s' xs)
 |_,_=>none
theorem GY[Tabs]{P:Program}{f:Nat}(he:au P f)(h:∀(s:Nat)(xs:List Opn),aw P f [.ptr 900 0] (wrS s xs) (hrA s xs.length s xs)):ag P f GX:=by
 intro args S A hA ho _;unfold GX at hA;split at hA
 ·simp only[Xs]at hA;subst hA;obtain⟨rfl,rfl⟩:=ho _ rfl;exact⟨he,h _ _⟩
 ·cases hA
end Go.Pd
end
noncomputable section
namespace Go.Pd
open Go Go.AL
def Bd(x y:CS)(c e:Nat):Prop:=x.1.length<=y.1.length/\y.1.length<=x.1.length+4000000 *c+e/\x.2.length<=y.2.length/\y.2.length<=x.2.length+c
theorem Bd.refl(x:CS):Bd x x 0 0:=⟨Mx _,by omega,Mx _,by omega⟩
theorem Bd.trans{x y z:CS}{a b d e:Nat}(h:Bd x y a d)(g:Bd y z b e):Bd x z (a+b) (d+e):=by obtain⟨h1,h2,h3,h4⟩:=h;obtain⟨g1,g2,g3,g4⟩:=g;refine⟨by omega,by rw[Nat.mul_add];omega,by omega,by omega⟩
theorem Bd.more{x y:CS}{a d a' d':Nat}(h:Bd x y a d)(ha:a<=a')(hd:4000000 *a+d<=4000000 *a'+d'):Bd x y a' d':=by obtain⟨h1,h2,h3,h4⟩:=h;exact⟨h1,by omega,h3,by omega⟩
theorem Bd.app(x:CS)(l:List Opn):Bd x (x.1++l,x.2) 0 l.length:=by refine⟨?_,?_,Mx _,Mx _⟩<;>simp only[Mq]<;>omega
theorem fm(o:List Opn)(k n:Int):(setN o k n).length=o.length:=by simp[setN]
theorem gE(o:List Opn)(k:Int)(l:List Int):(setTo o k l).length=o.length:=by simp[setTo]
theorem mX(n:Int):∀(l:List Int)(o:List Opn),(setAll n l o).length=o.length
 |[],o=>rfl
 |k::r,o=>by rw[setAll,mX n r,fm]
theorem db{l:List Trm}{i:Nat}(h:i<l.length):l.getD i default∈l:=by rw[Ms,Mn h];exact OB h
theorem aY{l:List Trm}{i:Nat}(h:i<l.length):szTL (l.drop i)=szT (l.getD i default)+szTL (l.drop (i+1)):=by rw[O2 h,szTL,Ms,Mn h];rfl
theorem de{f:Trm->Bool}{t x:Trm}(h:allT f t=true)(hx:x∈t.parts):allT f x=true:=by rw[allT_eq,Mo,allTL_all]at h;exact MI.1 h.2 x hx
theorem b6{f:Trm->Bool}{t:Trm}(h:allT f t=true):f t=true:=by rw[allT_eq,Mo]at h;exact h.1
theorem eK{t:Trm}(h:fQ t=true):t.names.length<=1048576:=by unfold fQ at h;rw[Mo]at h;exact Xo h.1
theorem AB{t:Trm}(h:fQ t=true)(k:t.kind=6):1<=t.parts.length:=by unfold fQ at h;rw[Mo,Mu k]at h;exact Xo h.2
theorem qp{t:Trm}(h:fQ t=true)(k:t.kind=12):3<=t.parts.length:=by unfold fQ at h;rw[Mo,Mp (by omega),Mu k]at h;exact Xo h.2
theorem gj{t:Trm}(h:fQ t=true)(k:t.kind=13):t.names.length+1<=t.parts.length/\t.names.length<=t.vars.length:=by unfold fQ at h;rw[Mo,Mp (by omega),Mp (by omega),Mu k,Mo]at h;exact⟨Xo h.2.1,Xo h.2.2⟩
theorem qq{t:Trm}(h:fQ t=true)(k:t.kind=14):2<=t.parts.length:=by unfold fQ at h;rw[Mo,Mp (by omega),Mp (by omega),Mp (by omega),Mu k]at h;exact Xo h.2
def HT(T:Trm->List Nam->CS->CS)(n:Nat):Prop:=∀t sc x,szT t<=n->allT fQ t=true->Bd x (T t sc x) (szT t) 0
theorem HT.part{T:Trm->List Nam->CS->CS}{n:Nat}(H:HT T n){t:Trm}(hs:szTL t.parts<=n)(ho:allT fQ t=true){i:Nat}(hi:i<t.parts.length)(sc:List Nam)(x:CS):Bd x (T (t.parts.getD i default) sc x) (szT (t.parts.getD i default)) 0:=
 H _ sc x (NA (cE (db hi)) hs) (de ho (db hi))
theorem nP{T:Trm->List Nam->CS->CS}{n:Nat}(H:HT T n)(sc:List Nam):∀(l:List Trm)(x:CS),szTL l<=n->(∀t∈l,allT fQ t=true)->Bd x (fP T sc l x) (szTL l) 0
 |[],x,_,_=>Bd.refl x
 |t::r,x,hs,ho=>by rw[szTL]at hs;rw[fP,szTL];exact(H t sc x (by omega) (ho t (N2 ..))).trans (nP H sc r _ (by omega) (fun u hu=>ho u (MK _ hu)))
theorem CR{T:Trm->List Nam->CS->CS}{n:Nat}(H:HT T n){t:Trm}(hs:szTL t.parts<=n)(ho:allT fQ t=true)(hk:t.kind=6)(sc:List Nam)(x:CS):(jK T t sc x).1=x.1/\x.2.length+1<=(jK T t sc x).2.length/\(jK T t sc x).2.length<=x.2.length+1+szTL t.parts:=by
 have h1:=AB (b6 ho) hk;obtain⟨_,_,g3,g4⟩:=H.part hs ho (i:=0) (by omega) (sc++t.names.map nm0) ([],x.2++[⟨t.names.length,[]⟩]);have e:=cE (db (l:=t.parts) (i:=0) (by omega));rw[Mq,Mr]at g3 g4;refine⟨rfl,?_,?_⟩
 ·show _<=(List.set _ _ _).length;rw[Ob];exact g3
 ·show(List.set _ _ _).length<=_;rw[Ob];omega
theorem CT{T:Trm->List Nam->CS->CS}{n:Nat}(H:HT T n){t:Trm}(hs:szTL t.parts<=n)(ho:allT fQ t=true)(sc:List Nam):∀(k i:Nat)(ts js:List Int)(x:CS),i+1+k<=t.parts.length->Bd x (fB T t sc k i ts js x).2.2 (szTL (t.parts.drop (i+1))) (2 *k)
 |0,i,ts,js,x,_=>by rw[fB];exact Bd.more (a:=0) (d:=0) (Bd.refl x) (ME _) (by omega)
 |k+1,i,ts,js,x,h=>by rw[fB,aY (by omega)];have h1:=H.part hs ho (i:=i+1) (by omega) (sc++[nm0 (t.vars.getD i [])]) x;exact((h1.trans (Bd.app _ _)).trans (CT H hs ho sc k (i+1) _ _ _ (by omega))).more (by omega) (by simp only[ML,N9];omega)
theorem Jp{T:Trm->List Nam->CS->CS}{n:Nat}(H:HT T n){t:Trm}(hs:szTL t.parts<=n)(ho:allT fQ t=true)(hk:1<=t.parts.length)(sc:List Nam)(x:CS)(o:Opn):Bd x ((T (t.parts.getD 0 default) sc x).1++[o],(T (t.parts.getD 0 default) sc x).2) (szT (t.parts.getD 0 default)) 1:=
 ((H.part hs ho (i:=0) (by omega) sc x).trans (Bd.app _ _)).more (by omega) (by simp only[ML,N9];omega)
theorem Jq{T:Trm->List Nam->CS->CS}{n:Nat}(H:HT T n){t:Trm}(hs:szTL t.parts<=n)(ho:allT fQ t=true)(hk:t.kind=13)(sc:List Nam)(x:CS):Bd x (nO T t sc x) (szTL t.parts) (1+2 *t.names.length):=by have h1:=(gj (b6 ho) hk).1;have h2:=(Jp H hs ho (by omega) sc x ⟨16,0,[],t.names,[],t.pos⟩).trans (CT H hs ho sc t.names.length 0 [] [] _ (by omega));have e:=aY (l:=t.parts) (i:=0) (by omega);rw[Nq]at e;obtain⟨g1,g2,g3,g4⟩:=h2;unfold nO;refine⟨?_,?_,?_,?_⟩<;>simp only[mX,gE]<;>omega
theorem Jr{T:Trm->List Nam->CS->CS}{n:Nat}(H:HT T n){t:Trm}(hs:szTL t.parts<=n)(ho:allT fQ t=true)(hk:t.kind=12)(sc:List Nam)(x:CS):Bd x (oQ T t sc x) (szTL t.parts) 2:=by
 have h1:=qp (b6 ho) hk;have e0:=aY (l:=t.parts) (i:=0) (by omega);have e1:=aY (l:=t.parts) (i:=1) (by omega);have e2:=aY (l:=t.parts) (i:=2) (by omega);rw[Nq]at e0;simp only[Nat.reduceAdd]at e0 e1 e2;unfold oQ;have a:=(H.part hs ho (i:=0) (by omega) sc x).trans (Bd.app _ [⟨14,0,[],[],[],t.pos⟩]);have b:=(a.trans (H.part hs ho (i:=1) (by omega) sc _)).trans (Bd.app _ [⟨15,0,[],[],[],t.pos⟩]);generalize hz:T (t.parts.getD 1 default) sc ((T (t.parts.getD 0 default) sc x).1++[⟨14,0,[],[],[],t.pos⟩],(T (t.parts.getD 0 default) sc x).2)=z at b;have c:=H.part hs ho (i:=2) (by omega) sc (setN (z.1++[(⟨15,0,[],[],[],t.pos⟩:Opn)]) (T (t.parts.getD 0 default) sc x).1.length (z.1++[(⟨15,0,[],[],[],t.pos⟩:Opn)]).length,z.2);simp only[hz];obtain⟨c1,c2,c3,c4⟩:=c;obtain⟨b1,b2,b3,b4⟩:=b;simp only[Mr]at b2;simp only[fm]at c1 c2;dsimp only at b1 b3 b4 c3 c4;refine⟨?_,?_,?_,?_⟩
 ·show _<=(setN _ _ _).length;rw[fm];exact NA b1 c1
 ·show(setN _ _ _).length<=_;rw[fm];refine NA c2 ?_;omega
 ·exact NA b3 c3
 ·refine NA c4 ?_;omega
theorem Js{T:Trm->List Nam->CS->CS}{n:Nat}(H:HT T n){t:Trm}(hs:szTL t.parts<=n)(ho:allT fQ t=true)(hk:t.kind=14)(sc:List Nam)(x:CS):Bd x (vY T t sc x) (szTL t.parts) 2:=by have h1:=qq (b6 ho) hk;have e0:=aY (l:=t.parts) (i:=0) (by omega);have e1:=aY (l:=t.parts) (i:=1) (by omega);rw[Nq]at e0;simp only[Nat.reduceAdd]at e0 e1;have a:=(H.part hs ho (i:=0) (by omega) sc x).trans (Bd.app _ [⟨12,0,[],[],[],t.pos⟩]);exact((a.trans (H.part hs ho (i:=1) (by omega) (sc++[nm0 t.name]) _)).trans (Bd.app _ [⟨13,1,[],[],[],t.pos⟩])).more (by omega) (by simp only[Mr];omega)
theorem sx{t:Trm}(ho:allT fQ t=true):∀u∈t.parts,allT fQ u=true:=fun _ hu=>de ho hu
theorem Jt{T:Trm->List Nam->CS->CS}{n:Nat}(H:HT T n){t:Trm}(hs:szTL t.parts<=n)(ho:allT fQ t=true)(sc:List Nam)(x:CS):Bd x (tO T t sc x) (szTL t.parts) 1:=by
 have a:=nP H sc t.parts x hs (sx ho);unfold tO;split
 ·exact(a.trans (Bd.app _ _)).more (by omega) (by simp only[Mr];omega)
 ·exact a.more (by omega) (by omega)
theorem kq:∀n,HT (aX n) n
 |0=>fun t sc x h _=>absurd (dh t) (by omega)
 |n+1=>fun t sc x h ho=>by
  have H:=kq n;have hs:szTL t.parts<=n:=by rw[cz]at h;omega
  have lf:∀o:Opn,Bd x (x.1++[o],x.2) (szT t) 0:=fun o=>(Bd.app x [o]).more (ME _) (by have:=dh t;simp only[Mr];omega);have nm:=eK (b6 ho);have e:=cz t;rw[aX];unfold iP;split
  ·exact lf _
  split
  ·exact lf _
  split
  ·exact lf _
  split
  ·exact lf _
  split
  ·exact lf _
  split
  ·rename_i k;obtain⟨f1,f2,f3⟩:=CR H hs ho k sc x;rw[f1];exact⟨by simp,by simp only[Mq,Mr];omega,by show _<=(jK _ _ _ _).2.length;omega,by show(jK _ _ _ _).2.length<=_;omega⟩
  split
  ·rename_i k;exact(Jr H hs ho k sc x).more (by omega) (by omega)
  split
  ·rename_i k;exact(Jq H hs ho k sc x).more (by omega) (by omega)
  split
  ·rename_i k;exact(Js H hs ho k sc x).more (by omega) (by omega)
  ·exact(Jt H hs ho sc x).more (by omega) (by omega)
theorem CmO.here{n:Nat}{sc:List Nam}{x:CS}{t:Trm}(h:CmO n sc x t):Bd x (aX n t sc x) (szT t) 0:=kq n t sc x h.1 h.2.1
theorem CmO.part{n:Nat}{sc sc':List Nam}{x y:CS}{t:Trm}(h:CmO (n+1) sc x t){i c e:Nat}(hi:i<t.parts.length)(hb:Bd x y c e)(hc:c+szT (t.parts.getD i default)<=szTL t.parts)(he:e<=4000000)(hn:sc'.length<=sc.length+2000000):CmO n sc' y (t.parts.getD i default):=by obtain⟨h1,h2,h3,h4,h5⟩:=h;obtain⟨b1,b2,b3,b4⟩:=hb;rw[cz]at h1 h3 h4 h5;have m:=cE (db hi);have a:=de h2 (db hi);exact⟨by omega,a,by omega,by omega,by omega⟩
theorem GZ{α β:Type}(x:α×β):(x.1,x.2)=x:=rfl
theorem nQ{α:Type}[Inhabited α]{l:List α}{i:Nat}(h:i<l.length):l.take (i+1)=l.take i++[l.getD i default]:=by rw[Pk h,Ms,Mn h];rfl
theorem oR(T:Trm->List Nam->CS->CS)(sc:List Nam)(t:Trm):∀(l:List Trm)(x:CS),fP T sc (l++[t]) x=T t sc (fP T sc l x)
 |[],x=>rfl
 |u::r,x=>by rw[Ng,fP,fP];exact oR T sc t r _
theorem uw(W:Trm->Nat)(t:Trm)(l:List Trm):mj W (l++[t])=mj W l+W t:=by simp[mj]
theorem oS(t:Trm):∀l:List Trm,szTL (l++[t])=szTL l+szT t
 |[]=>by simp[szTL]
 |u::r=>by rw[Ng,szTL,szTL,oS t r];omega
theorem je(l:List Trm)(i:Nat):szTL (l.take i)<=szTL l:=by
 induction l generalizing i with
 |nil=>simp
 |cons p r ih=>cases i with|zero=>simp[szTL]|succ i=>rw[NV,szTL,szTL];have:=ih i;omega
theorem CmL.next{n:Nat}{sc:List Nam}{x:CS}{l:List Trm}(h:CmL n sc x l){i:Nat}(hi:i<l.length):CmO n sc (fP (aX n) sc (l.take i) x) (l.getD i default):=by
 obtain⟨h1,h2,h3,h4,h5⟩:=h;have g:szTL (l.take (i+1))=szTL (l.take i)+szT (l.getD i default):=by rw[nQ hi,oS]
 have g2:=je l (i+1);obtain⟨b1,b2,b3,b4⟩:=nP (kq n) sc (l.take i) x (by omega) (fun t ht=>h2 t (List.mem_of_mem_take ht));exact⟨by omega,h2 _ (db hi),by omega,by omega,by omega⟩
theorem sy(o:List Opn)(k n:Int):o.set k.toNat {kind:=(o.getD k.toNat (dfl (.st .op))).kind,n:=n,name:=(o.getD k.toNat (dfl (.st .op))).name,names:=(o.getD k.toNat (dfl (.st .op))).names,tos:=(o.getD k.toNat (dfl (.st .op))).tos,pos:=(o.getD k.toNat (dfl (.st .op))).pos}=setN o k n:=rfl
theorem uz(o:List Opn)(k:Int)(l:List Int):o.set k.toNat {kind:=(o.getD k.toNat (dfl (.st .op))).kind,n:=(o.getD k.toNat (dfl (.st .op))).n,name:=(o.getD k.toNat (dfl (.st .op))).name,names:=(o.getD k.toNat (dfl (.st .op))).names,tos:=l,pos:=(o.getD k.toNat (dfl (.st .op))).pos}=setTo o k l:=rfl
theorem AD{n:Nat}{t:Trm}{sc:List Nam}{x:CS}(ho:CmO (n+1) sc x t)(hk:t.kind=13):xW n t sc x 0 [] (xV n t sc x):=by
 have hc:=(gj (b6 ho.2.1) hk).1;have hn:=eK (b6 ho.2.1);have e0:=aY (l:=t.parts) (i:=0) (by omega);rw[Nq]at e0;have o0:CmO n sc x (t.parts.getD 0 default):=ho.part (by omega) (Bd.refl x) (by omega) (by omega) (by omega);obtain⟨b1,b2,b3,b4⟩:=o0.here;obtain⟨h1,h2,h3,h4,h5⟩:=ho;rw[cz]at h1 h3 h4 h5;unfold xV;refine⟨?_,?_,Mx _,fun j hj=>by cases hj⟩
 ·simp only[Mq,Mr];omega
 ·show(aX n (t.parts.getD 0 default) sc x).2.length+_<=_;omega
theorem uA{n:Nat}{t:Trm}{sc:List Nam}{x y:CS}{i:Nat}{js:List Int}(ho:CmO (n+1) sc x t)(hk:t.kind=13)(hi:i<t.names.length)(h:xW n t sc x i js y)(v:Nam):CmO n (sc++[v]) y (t.parts.getD (i+1) default):=by have hc:=(gj (b6 ho.2.1) hk).1;have e0:=aY (l:=t.parts) (i:=i+1) (by omega);have p:=cE (db (l:=t.parts) (i:=i+1) (by omega));obtain⟨h1,h2,h3,h4,h5⟩:=ho;obtain⟨i1,i2,i3,i4⟩:=h;rw[cz]at h1 h3 h4 h5;refine⟨by omega,de h2 (db (by omega)),by omega,?_,by omega⟩;rw[Mq,Mr];omega
theorem Em{n:Nat}{t:Trm}{sc:List Nam}{x y:CS}{i:Nat}{js:List Int}(ho:CmO (n+1) sc x t)(hk:t.kind=13)(hi:i<t.names.length)(h:xW n t sc x i js y)(v:Nam)(a b:Opn):xW n t sc x (i+1) (js++[((aX n (t.parts.getD (i+1) default) (sc++[v]) y).1.length:Int)+1]) ((aX n (t.parts.getD (i+1) default) (sc++[v]) y).1++[a,b],(aX n (t.parts.getD (i+1) default) (sc++[v]) y).2):=by
 have hc:=(gj (b6 ho.2.1) hk).1;have e0:=aY (l:=t.parts) (i:=i+1) (by omega);obtain⟨b1,b2,b3,b4⟩:=(uA ho hk hi h v).here;obtain⟨i1,i2,i3,i4⟩:=h;have e:([a,b]:List Opn).length=2:=rfl;refine⟨?_,?_,?_,?_⟩
 ·simp only[Mq,e];omega
 ·show(aX n (t.parts.getD (i+1) default) (sc++[v]) y).2.length+_<=_;omega
 ·simp only[Mq,e];omega
 ·intro j hj;simp only[Mq,e];rcases MW.1 hj with q|q
  ·have:=i4 j q;omega
  ·rw[Nf]at q;omega
theorem Ju{T:Trm->List Nam->CS->CS}{t:Trm}{sc:List Nam}{x z:CS}{ts js:List Int}(h:fB T t sc t.names.length 0 [] [] ((T (t.parts.getD 0 default) sc x).1++[⟨16,0,[],t.names,[],t.pos⟩],(T (t.parts.getD 0 default) sc x).2)=(ts,js,z)):nO T t sc x=(setAll z.1.length js (setTo z.1 (T (t.parts.getD 0 default) sc x).1.length ts),z.2):=by unfold nO;simp only[h]
theorem En(W:Trm->Nat)(t:Trm)(i:Nat):vZ W t (i+1)=vZ W t i+(W (t.parts.getD (i+1) default)+1):=by unfold vZ;rw[List.range_succ,NR,List.map_singleton,uw]
theorem Me{n:Nat}{t:Trm}(hk:t.kind=13):wK n t=wN n (t.parts.getD 0 default)+vZ (wN n) t t.names.length:=by unfold wK sw vZ;rw[Mp (by omega),Mp (by omega),Mu hk]
theorem CU{α:Type}[Inhabited α]{l:List α}{i:Nat}(h:i<l.length):l.drop i=l.getD i default::l.drop (i+1):=by rw[O2 h,Ms,Mn h];rfl
theorem H0{α:Type}[Inhabited α]{l:List α}{i:Nat}(h:i<l.length):l.getD i default∈l:=by rw[Ms,Mn h];exact OB h
section
variable {n:Nat} {t:Trm} (sc:List Nam) (x:CS)
theorem KI(h:t.kind=1):aX (n+1) t sc x=(x.1++[⟨1,t.n,[],[],[],t.pos⟩],x.2):=by rw[aX];unfold iP;simp only[h];rfl
theorem KJ(h:t.kind=2):aX (n+1) t sc x=(x.1++[⟨2,0,t.name,[],[],t.pos⟩],x.2):=by rw[aX];unfold iP;simp only[h];rfl
theorem KK(h:t.kind=3):aX (n+1) t sc x=(x.1++[⟨3,1,[],[],[],t.pos⟩],x.2):=by rw[aX];unfold iP;simp only[h];rfl
theorem KM(h:t.kind=4):aX (n+1) t sc x=(x.1++[⟨3,0,[],[],[],t.pos⟩],x.2):=by rw[aX];unfold iP;simp only[h];rfl
theorem KN(h:t.kind=5):aX (n+1) t sc x=(x.1++[mE sc t],x.2):=by rw[aX];unfold iP;simp only[h];rfl
theorem KO(h:t.kind=6):aX (n+1) t sc x=((jK (aX n) t sc x).1++[⟨6,x.2.length,[],[],[],t.pos⟩],(jK (aX n) t sc x).2):=by rw[aX];unfold iP;simp only[h];rfl
theorem H2(h:t.kind=12):aX (n+1) t sc x=oQ (aX n) t sc x:=by rw[aX];unfold iP;simp only[h];rfl
theorem H3(h:t.kind=13):aX (n+1) t sc x=nO (aX n) t sc x:=by rw[aX];unfold iP;simp only[h];rfl
theorem H4(h:t.kind=14):aX (n+1) t sc x=vY (aX n) t sc x:=by rw[aX];unfold iP;simp only[h];rfl
theorem KP(h:¬t.kind=1/\¬t.kind=2/\¬t.kind=3/\¬t.kind=4/\¬t.kind=5/\¬t.kind=6/\¬t.kind=12/\¬t.kind=13/\¬t.kind=14):aX (n+1) t sc x=tO (aX n) t sc x:=by obtain⟨h1,h2,h3,h4,h5,h6,h7,h8,h9⟩:=h;rw[aX];unfold iP;rw[Mp h1,Mp h2,Mp h3,Mp h4,Mp h5,Mp h6,Mp h7,Mp h8,Mp h9]
theorem oU(h:t.kind=1∨t.kind=2∨t.kind=3∨t.kind=4∨t.kind=5∨t.kind=6):wN (n+1) t=0:=by rw[wN];unfold sw;rw[Mu h]
theorem w_14(h:t.kind=14):wN (n+1) t=wN n (t.parts.getD 0 default)+wN n (t.parts.getD 1 default)+1:=by rw[wN];unfold sw;rw[Mp (by omega),Mp (by omega),Mp (by omega),Mu h]
theorem w_r(h:¬t.kind=1/\¬t.kind=2/\¬t.kind=3/\¬t.kind=4/\¬t.kind=5/\¬t.kind=6/\¬t.kind=12/\¬t.kind=13/\¬t.kind=14):wN (n+1) t=mj (wN n) t.parts:=by obtain⟨h1,h2,h3,h4,h5,h6,h7,h8,h9⟩:=h;rw[wN];unfold sw;rw[Mp (by omega),Mp h7,Mp h8,Mp h9]
end
theorem CmO.parts{n:Nat}{sc:List Nam}{x:CS}{t:Trm}(h:CmO (n+1) sc x t):CmL n sc x t.parts:=by obtain⟨h1,h2,h3,h4,h5⟩:=h;rw[cz]at h1 h3 h4 h5;exact⟨by omega,sx h2,by omega,by omega,by omega⟩
end Go.Pd
end
noncomputable section
namespace Go.Pd
open Go Go.AL
theorem lY{f g k:Trm->Bool}(h:∀x,f x=true->g x=true->k x=true):∀(n:Nat)(t:Trm),szT t<=n->allT f t=true->allT g t=true->allT k t=true
 |0,t,hn,_,_=>absurd (dh t) (by omega)
 |n+1,t,hn,hf,hg=>by rw[cz]at hn;rw[allT_eq,Mo,allTL_all]at hf hg⊢;refine⟨h t hf.1 hg.1,MI.2 fun u hu=>?_⟩;have:=cE hu;exact lY h n u (by omega) (MI.1 hf.2 u hu) (MI.1 hg.2 u hu)
theorem iQ{t:Trm}{n v s p:Nat}(h:fk t n v s p=true):t.names.length=n/\t.vars.length=v/\t.parts.length=p:=by unfold fk at h;simp only[Mo,MD]at h;exact⟨h.1.1.1,h.1.1.2,h.2⟩
theorem uB{t:Trm}(h:ax t=true)(hn:t.names.length<=1048576):fQ t=true:=by
 unfold ax at h;rw[Mo]at h;have h:=h.2;unfold jF at h;unfold fQ;rw[Mo];refine⟨Xd hn,?_⟩;by_cases k6:t.kind=6
 ·rw[Mu k6];rw[Mp (by omega),Mp (by omega),Mp (by omega),Mp (by omega),Mu k6,Mo]at h;have:=iQ h.2;exact Xd (by omega)
 rw[Mp k6];by_cases k12:t.kind=12
 ·rw[Mu k12];rw[Mp (by omega),Mp (by omega),Mp (by omega),Mp (by omega),Mp (by omega),Mp (by omega),Mp (by omega),Mp (by omega),Mp (by omega),Mu k12,Mo]at h;have:=iQ h.2;exact Xd (by omega)
 rw[Mp k12];by_cases k13:t.kind=13
 ·rw[Mu k13];rw[Mp (by omega),Mp (by omega),Mp (by omega),Mp (by omega),Mp (by omega),Mp (by omega),Mp (by omega),Mp (by omega),Mp (by omega),Mp (by omega),Mu k13,Mo]at h;have:=iQ h.2;rw[Mo];exact⟨Xd (by omega),Xd (by omega)⟩
 rw[Mp k13];by_cases k14:t.kind=14
 ·rw[Mu k14];rw[Mp (by omega),Mp (by omega),Mp (by omega),Mp (by omega),Mp (by omega),Mp (by omega),Mp (by omega),Mp (by omega),Mp (by omega),Mp (by omega),Mp (by omega),Mu k14,Mo]at h;have:=iQ h.2;exact Xd (by omega)
 ·rw[Mp k14]
theorem pJ{t:Trm}(h:aZ t=0):allT ax t=true:=by
 unfold aZ at h;split at h
 ·cases h
 split at h
 ·cases h
 split at h
 ·assumption
 ·cases h
mutual
def szcT:Trm->Int->Int
 |⟨_,_,_,_,_,_,_,ps,_⟩,m=>szcTL ps 1 m
def szcTL:List Trm->Int->Int->Int
 |[],n,_=>n
 |p::r,n,m=>if n<=m then szcTL r (n+szcT p (m-n)) m else n
end
mutual
theorem szcT_bd:∀(s:Trm)(m:Int),0<=m->1<=szcT s m/\szcT s m<=m+1
 |⟨_,_,_,_,_,_,_,ps,_⟩,m,h=>by simp only[szcT];exact szcTL_bd ps 1 m (by omega) (by omega)
theorem szcTL_bd:∀(l:List Trm)(n m:Int),1<=n->n<=m+1->1<=szcTL l n m/\szcTL l n m<=m+1
 |[],n,m,h1,h2=>by simp only[szcTL];omega
 |p::r,n,m,h1,h2=>by
  simp only[szcTL];split
  ·have:=szcT_bd p (m-n) (by omega);exact szcTL_bd r _ m (by omega) (by omega)
  ·omega
end
mutual
theorem szcT_eq:∀(s:Trm)(m:Int),0<=m->szcT s m=min (szT s:Int) (m+1)
 |⟨_,_,_,_,_,_,_,ps,_⟩,m,h=>by simp only[szcT,szT];rw[szcTL_eq ps 1 m (by omega)];omega
theorem szcTL_eq:∀(l:List Trm)(n m:Int),n<=m+1->szcTL l n m=min (n+szTL l) (m+1)
 |[],n,m,h=>by simp only[szcTL,szTL];omega
 |p::r,n,m,h=>by
  simp only[szcTL,szTL];have:=dh p;split
  ·rw[szcT_eq p (m-n) (by omega),szcTL_eq r _ m (by omega)];omega
  ·omega
end
theorem Jv{f:Trm->Bool}(hf:∀x,f x=true->x.names.length<=1048576){t:Trm}{l:List Bndg}(h:allT f t=true)(hz:szT t<=500)(hl:l.length<=200):AA (szT t) t l:=by
 have fw:cX t=true:=lY (g:=f) (fun x a _=>Xd (by have:=hf x a;omega)) _ t (Mx _) h h;refine⟨fw,by omega,fun c=>⟨Mx _,lY (fun x a b=>uB a (hf x b)) _ t (Mx _) (pJ c) h,?_,?_,?_⟩⟩
 ·show 0+_<=_;omega
 ·rw[MZ];omega
 ·show 1+_<=_;omega
def Jw(t:Trm)(l:List Bndg):List Chnk×Int:=(if aZ t≠0 then[]else El (szT t) t l,aZ t)
end Go.Pd
end
section
namespace Go.Proofs.YtldkmcedeenlnaaGreatDoor.Join
open Go.AL Go.AL.Seat Go.Pd Go.ChangeShapes Go.WideShapes Go.RowKit Go.Lib Go.Shelf
set_option maxRecDepth 1000000
theorem Mf:Tryz.prog.underlying 27=some (.slice 51):=by kernel_rfl
theorem CV:ShapeAt Tryz.prog 49:=⟨_,_,_,_,_,9,Tryz.underlying49,by kernel_rfl,⟨rfl,rfl,rfl,rfl,rfl⟩,⟨by kernel_rfl,by kernel_rfl,by kernel_rfl,by kernel_rfl,by kernel_rfl⟩,by kernel_rfl,by kernel_rfl,by kernel_rfl,by kernel_rfl,by kernel_rfl,by kernel_rfl,by kernel_rfl⟩
theorem Ls:BindAt Tryz.prog 51:=⟨_,_,_,Tryz.underlying51,by kernel_rfl,⟨rfl,rfl,rfl⟩,⟨by kernel_rfl,by kernel_rfl,by kernel_rfl⟩,by kernel_rfl,by kernel_rfl,CV⟩
theorem Lt:TermAt Tryz.prog 26:=⟨_,_,_,_,_,_,_,_,_,9,49,Tryz.underlying26,by kernel_rfl,⟨rfl,rfl,rfl,rfl,rfl,rfl,rfl,rfl,rfl⟩,⟨by kernel_rfl,by kernel_rfl,by kernel_rfl,by kernel_rfl,by kernel_rfl,by kernel_rfl,by kernel_rfl,by kernel_rfl,by kernel_rfl⟩,
 ⟨by kernel_rfl,by kernel_rfl,by kernel_rfl,by kernel_rfl,by kernel_rfl,by kernel_rfl,by kernel_rfl,by kernel_rfl,by kernel_rfl⟩,⟨by kernel_rfl,by kernel_rfl,by kernel_rfl⟩,CV⟩
theorem Mg:Tryz.prog.readableRec 26=true:=by kernel_rfl
theorem Mh:Tryz.prog.readableRec 27=true:=by kernel_rfl
theorem xX(x:Trm)(h:jn 1048576 1048576 x=true):x.names.length<=1048576:=by unfold jn at h;rw[Mo]at h;exact Xo h.1
end Go.Proofs.YtldkmcedeenlnaaGreatDoor.Join
end
noncomputable section
namespace Go.Pd
open Go Go.AL
def Bh(p q:List Opn)(x y:CS):Prop:=∃r c,x=(p++r,c)/\y=(q++r,c)
theorem Bh.start(p q:List Opn)(c:List Chnk):Bh p q (p,c) (q,c):=⟨[],c,by rw[Ny],by rw[Ny]⟩
theorem Bh.len{p q:List Opn}{x y:CS}(h:Bh p q x y)(e:p.length=q.length):x.1.length=y.1.length/\x.2=y.2/\p.length<=x.1.length:=by obtain⟨r,c,rfl,rfl⟩:=h;simp only[Mq];exact⟨by omega,trivial,by omega⟩
theorem Bh.app{p q:List Opn}{x y:CS}(h:Bh p q x y)(l:List Opn):Bh p q (x.1++l,x.2) (y.1++l,y.2):=by obtain⟨r,c,rfl,rfl⟩:=h;exact⟨r++l,c,by simp only[MH],by simp only[MH]⟩
theorem sA(p r:List Opn)(k:Nat)(h:p.length<=k):(p++r).getD k default=r.getD (k-p.length) default:=by rw[Ms,MB h,Ms]
theorem sB(p r:List Opn)(k v:Int)(h:p.length<=k.toNat):setN (p++r) k v=p++setN r ((k.toNat-p.length:Nat):Int) v:=by unfold setN;rw[Mv,Pn _ _ h,sA _ _ _ h]
theorem oV(p r:List Opn)(k:Int)(l:List Int)(h:p.length<=k.toNat):setTo (p++r) k l=p++setTo r ((k.toNat-p.length:Nat):Int) l:=by unfold setTo;rw[Mv,Pn _ _ h,sA _ _ _ h]
theorem Bh.setN{p q:List Opn}{x y:CS}(h:Bh p q x y)(e:p.length=q.length){k:Int}(hk:p.length<=k.toNat)(v:Int):Bh p q (setN x.1 k v,x.2) (setN y.1 k v,y.2):=by obtain⟨r,c,rfl,rfl⟩:=h;refine⟨_,c,by rw[sB _ _ _ _ hk],?_⟩;rw[sB _ _ _ _ (by omega),e]
theorem Bh.setTo{p q:List Opn}{x y:CS}(h:Bh p q x y)(e:p.length=q.length){k:Int}(hk:p.length<=k.toNat)(l:List Int):Bh p q (setTo x.1 k l,x.2) (setTo y.1 k l,y.2):=by obtain⟨r,c,rfl,rfl⟩:=h;refine⟨_,c,by rw[oV _ _ _ _ hk],?_⟩;rw[oV _ _ _ _ (by omega),e]
theorem Bh.setAll{p q:List Opn}(e:p.length=q.length)(v:Int):∀(js:List Int) {x y:CS},Bh p q x y->(∀j∈js,p.length<=j.toNat)->Bh p q (setAll v js x.1,x.2) (setAll v js y.1,y.2)
 |[],x,y,h,_=>h
 |j::r,x,y,h,hj=>Bh.setAll e v r (h.setN e (hj j (N2 ..)) v) fun i hi=>hj i (MK _ hi)
def HB(T:Trm->List Nam->CS->CS):Prop:=∀t sc p q x y,p.length=q.length->Bh p q x y->Bh p q (T t sc x) (T t sc y)
theorem CW{T:Trm->List Nam->CS->CS}(H:HB T)(sc:List Nam){p q:List Opn}(e:p.length=q.length):∀(l:List Trm)(x y:CS),Bh p q x y->Bh p q (fP T sc l x) (fP T sc l y)
 |[],x,y,h=>h
 |t::r,x,y,h=>CW H sc e r _ _ (H t sc p q x y e h)
theorem CX{T:Trm->List Nam->CS->CS}(H:HB T)(t:Trm)(sc:List Nam){p q:List Opn}(e:p.length=q.length):∀(k i:Nat)(ts js:List Int)(x y:CS),Bh p q x y->(∀j∈js,p.length<=j.toNat)->
  (fB T t sc k i ts js x).1=(fB T t sc k i ts js y).1/\(fB T t sc k i ts js x).2.1=(fB T t sc k i ts js y).2.1/\(∀j∈(fB T t sc k i ts js x).2.1,p.length<=j.toNat)/\Bh p q (fB T t sc k i ts js x).2.2 (fB T t sc k i ts js y).2.2
 |0,i,ts,js,x,y,h,hj=>⟨rfl,rfl,hj,h⟩
 |k+1,i,ts,js,x,y,h,hj=>by
  rw[fB,fB];have h1:=H (t.parts.getD (i+1) default) (sc++[nm0 (t.vars.getD i [])]) p q x y e h;have l1:=h1.len e;rw[(h.len e).1,l1.1];refine CX H t sc e k (i+1) _ _ _ _ (h1.app _) fun j hm=>?_;rcases MW.1 hm with m|m
  ·exact hj j m
  ·rw[Nf]at m;subst m;have:=l1.2.2;rw[l1.1]at this;omega
theorem H5{T:Trm->List Nam->CS->CS}(H:HB T):HB (iP T):=by
 intro t sc p q x y e h;obtain⟨l1,l2,l3⟩:=h.len e;have hf:jK T t sc x=(x.1,(jK T t sc y).2):=by unfold jK;rw[l2]
 have hc:Bh p q (oQ T t sc x) (oQ T t sc y):=by
  unfold oQ;dsimp only;have a:=H (t.parts.getD 0 default) sc p q x y e h;generalize T (t.parts.getD 0 default) sc x=A at *
  generalize T (t.parts.getD 0 default) sc y=A' at *
  have al:=a.len e;have b:=H (t.parts.getD 1 default) sc p q _ _ e (a.app [⟨14,0,[],[],[],t.pos⟩]);rw[<-al.1];generalize T (t.parts.getD 1 default) sc (A.1++[⟨14,0,[],[],[],t.pos⟩],A.2)=B at *
  generalize T (t.parts.getD 1 default) sc (A'.1++[⟨14,0,[],[],[],t.pos⟩],A'.2)=B' at *
  have bl:=b.len e;have o:=b.app [(⟨15,0,[],[],[],t.pos⟩:Opn)];have ol:=(o.len e).1;simp only at ol;have s:=o.setN e (k:=(A.1.length:Int)) (by rw[Mv];exact al.2.2) ((B.1++[(⟨15,0,[],[],[],t.pos⟩:Opn)]).length:Int);rw[<-ol,<-bl.1];have c:=H (t.parts.getD 2 default) sc p q _ _ e s;simp only at c;generalize T (t.parts.getD 2 default) sc (Go.Pd.setN (B.1++[(⟨15,0,[],[],[],t.pos⟩:Opn)]) (A.1.length:Int) ((B.1++[(⟨15,0,[],[],[],t.pos⟩:Opn)]).length:Int),B.2)=C at *
  generalize T (t.parts.getD 2 default) sc _=C' at *
  have cl:=c.len e;rw[<-cl.1];exact c.setN e (k:=(B.1.length:Int)) (by rw[Mv];exact bl.2.2) (C.1.length:Int)
 have hm:Bh p q (nO T t sc x) (nO T t sc y):=by
  unfold nO;dsimp only;have a:=H (t.parts.getD 0 default) sc p q x y e h;generalize T (t.parts.getD 0 default) sc x=A at *
  generalize T (t.parts.getD 0 default) sc y=A' at *
  have al:=a.len e;obtain⟨r1,r2,r3,r4⟩:=CX H t sc e t.names.length 0 [] [] _ _ (a.app [⟨16,0,[],t.names,[],t.pos⟩]) (fun j hj=>by cases hj);have s:=r4.setTo e (k:=(A.1.length:Int)) (by rw[Mv];exact al.2.2) (fB T t sc t.names.length 0 [] [] (A.1++[⟨16,0,[],t.names,[],t.pos⟩],A.2)).1;have z:=Bh.setAll e ((fB T t sc t.names.length 0 [] [] (A.1++[⟨16,0,[],t.names,[],t.pos⟩],A.2)).2.2.1.length:Int) _ s r3;simp only at z;rw[<-al.1,<-r1,<-r2,<-(r4.len e).1];exact z
 have hl:Bh p q (vY T t sc x) (vY T t sc y):=by unfold vY;exact(H _ _ p q _ _ e ((H (t.parts.getD 0 default) sc p q x y e h).app [⟨12,0,[],[],[],t.pos⟩])).app _
 have hr:Bh p q (tO T t sc x) (tO T t sc y):=by
  unfold tO;have a:=CW H sc e t.parts x y h;split
  ·exact a.app _
  ·exact a
 unfold iP;split
 ·exact h.app _
 split
 ·exact h.app _
 split
 ·exact h.app _
 split
 ·exact h.app _
 split
 ·exact h.app _
 split
 ·rw[hf,l2];have f:(jK T t sc y).1=y.1:=rfl;rw[f];obtain⟨r,c,rfl,rfl⟩:=h;exact⟨r++[⟨6,c.length,[],[],[],t.pos⟩],(jK T t sc (q++r,c)).2,by simp only[MH],by simp only[MH]⟩
 split
 ·exact hc
 split
 ·exact hm
 split
 ·exact hl
 ·exact hr
theorem CY:∀n,HB (aX n)
 |0=>fun t sc p q x y _ h=>h
 |n+1=>fun t sc p q x y e h=>by rw[aX];exact H5 (CY n) t sc p q x y e h
def cb(f:Nat):List Opn:=List.replicate f default
theorem bR(f:Nat):(cb f).length=f:=List.length_replicate
def bw(n:Nat)(t:Trm)(sc:List Nam)(f:Nat)(ch:List Chnk):CS:=((aX n t sc (cb f,ch)).1.drop f,(aX n t sc (cb f,ch)).2)
theorem gL(n:Nat)(t:Trm)(sc:List Nam)(p:List Opn)(ch:List Chnk):aX n t sc (p,ch)=(p++(bw n t sc p.length ch).1,(bw n t sc p.length ch).2):=by obtain⟨r,c,h1,h2⟩:=CY n t sc p (cb p.length) (p,ch) (cb p.length,ch) (bR _).symm (Bh.start _ _ _);unfold bw;rw[h1,h2];simp only;rw[List.drop_left' (bR _)]
theorem Jx{n:Nat}{t:Trm}(sc:List Nam)(f:Nat)(ch:List Chnk)(h:szT t<=n)(ho:allT fQ t=true):(bw n t sc f ch).1.length<=4000000 *szT t/\ch.length<=(bw n t sc f ch).2.length/\(bw n t sc f ch).2.length<=ch.length+szT t:=by obtain⟨b1,b2,b3,b4⟩:=kq n t sc (cb f,ch) h ho;simp only[bR]at b1 b2 b3 b4;unfold bw;rw[O6];exact⟨by omega,b3,b4⟩
theorem qt(p:List Opn)(o:Opn)(r:List Opn)(v:Int):setN (p++o::r) (p.length:Int) v=p++{o with n:=v}::r:=by rw[sB _ _ _ _ (by omega)];simp[setN]
theorem gl(f:Nat)(l:List Opn):(cb f++l).drop f=l:=List.drop_left' (bR f)
theorem Lu{n:Nat}{t:Trm}(sc:List Nam)(f:Nat)(ch:List Chnk)(h:t.kind=5):bw (n+1) t sc f ch=([mE sc t],ch):=by unfold bw;rw[KN sc _ h];simp only[gl]
def xY(n:Nat)(t:Trm)(sc:List Nam)(ch:List Chnk):List Chnk:=
 let r:=bw n (t.parts.getD 0 default) (sc++t.names.map nm0) 0 (ch++[⟨t.names.length,[]⟩])
 r.2.set ch.length {(r.2.getD ch.length default)with ops:=r.1}
theorem Lv{n:Nat}{t:Trm}(sc:List Nam)(f:Nat)(ch:List Chnk)(h:t.kind=6):bw (n+1) t sc f ch=([⟨6,ch.length,[],[],[],t.pos⟩],xY n t sc ch):=by unfold bw xY;rw[KO sc _ h];unfold jK;simp only[gl];rw[gL n _ _ [] _];rfl
def Lw(n:Nat)(t:Trm)(sc:List Nam)(f:Nat)(ch:List Chnk):CS:=
 let a:=bw n (t.parts.getD 0 default) sc f ch
 let b:=bw n (t.parts.getD 1 default) sc (f+a.1.length+1) a.2
 let c:=bw n (t.parts.getD 2 default) sc (f+a.1.length+1+b.1.length+1) b.2
 (a.1++[⟨14,(f+a.1.length+1+b.1.length+1:Nat),[],[],[],t.pos⟩]++b.1++[⟨15,((f+a.1.length+1+b.1.length+1:Nat):Int)+c.1.length,[],[],[],t.pos⟩]++c.1,c.2)
theorem Jy{n:Nat}{t:Trm}(sc:List Nam)(f:Nat)(ch:List Chnk)(h:t.kind=12):bw (n+1) t sc f ch=Lw n t sc f ch:=by
 unfold bw Lw;rw[H2 sc _ h];unfold oQ;dsimp only;rw[gL n (t.parts.getD 0 default) sc (cb f) ch,bR];generalize bw n (t.parts.getD 0 default) sc f ch=A;dsimp only;have e1:(cb f++A.1++[(⟨14,0,[],[],[],t.pos⟩:Opn)]).length=f+A.1.length+1:=by simp only[Mq,bR,Mr]
 rw[gL n (t.parts.getD 1 default) sc (cb f++A.1++[(⟨14,0,[],[],[],t.pos⟩:Opn)]) A.2,e1];generalize bw n (t.parts.getD 1 default) sc (f+A.1.length+1) A.2=B;dsimp only;have e2:((cb f++A.1++[(⟨14,0,[],[],[],t.pos⟩:Opn)]++B.1)++[(⟨15,0,[],[],[],t.pos⟩:Opn)]).length=f+A.1.length+1+B.1.length+1:=by simp only[Mq,bR,Mr]
 simp only[e2];have e3:setN ((cb f++A.1++[(⟨14,0,[],[],[],t.pos⟩:Opn)]++B.1)++[(⟨15,0,[],[],[],t.pos⟩:Opn)]) ((cb f++A.1).length:Int) ((f+A.1.length+1+B.1.length+1:Nat):Int)=(cb f++A.1++[(⟨14,((f+A.1.length+1+B.1.length+1:Nat):Int),[],[],[],t.pos⟩:Opn)]++B.1)++[(⟨15,0,[],[],[],t.pos⟩:Opn)]:=by have:=qt (cb f++A.1) ⟨14,0,[],[],[],t.pos⟩ (B.1++[(⟨15,0,[],[],[],t.pos⟩:Opn)]) ((f+A.1.length+1+B.1.length+1:Nat):Int);simp only[MH,Ng,Nc]at this⊢;exact this
 rw[e3];have e4:((cb f++A.1++[(⟨14,((f+A.1.length+1+B.1.length+1:Nat):Int),[],[],[],t.pos⟩:Opn)]++B.1)++[(⟨15,0,[],[],[],t.pos⟩:Opn)]).length=f+A.1.length+1+B.1.length+1:=by simp only[Mq,bR,Mr]
 rw[gL n (t.parts.getD 2 default) sc _ B.2,e4];generalize bw n (t.parts.getD 2 default) sc (f+A.1.length+1+B.1.length+1) B.2=C;dsimp only;have e5:(cb f++A.1++[(⟨14,0,[],[],[],t.pos⟩:Opn)]++B.1).length=(cb f++A.1++[(⟨14,((f+A.1.length+1+B.1.length+1:Nat):Int),[],[],[],t.pos⟩:Opn)]++B.1).length:=by simp only[Mq,Mr]
 rw[e5];generalize hv:((f+A.1.length+1+B.1.length+1:Nat):Int)=v;have e6:=qt (cb f++A.1++[(⟨14,v,[],[],[],t.pos⟩:Opn)]++B.1) ⟨15,0,[],[],[],t.pos⟩ C.1 (v+C.1.length);have e7:((cb f++A.1++[(⟨14,v,[],[],[],t.pos⟩:Opn)]++B.1++[(⟨15,0,[],[],[],t.pos⟩:Opn)]++C.1).length:Int)=v+C.1.length:=by rw[<-hv];simp only[Mq,bR,Mr];omega
 simp only[e7];rw[show cb f++A.1++[(⟨14,v,[],[],[],t.pos⟩:Opn)]++B.1++[(⟨15,0,[],[],[],t.pos⟩:Opn)]++C.1=(cb f++A.1++[(⟨14,v,[],[],[],t.pos⟩:Opn)]++B.1)++(⟨15,0,[],[],[],t.pos⟩:Opn)::C.1 by simp only[MH,Ng,Nc],e6];simp only[MH,Ng,Nc,gl]
def Lx(n:Nat)(t:Trm)(sc:List Nam)(f:Nat)(ch:List Chnk):CS:=
 let a:=bw n (t.parts.getD 0 default) sc f ch
 let b:=bw n (t.parts.getD 1 default) (sc++[nm0 t.name]) (f+a.1.length+1) a.2
 (a.1++[⟨12,0,[],[],[],t.pos⟩]++b.1++[⟨13,1,[],[],[],t.pos⟩],b.2)
theorem Jz{n:Nat}{t:Trm}(sc:List Nam)(f:Nat)(ch:List Chnk)(h:t.kind=14):bw (n+1) t sc f ch=Lx n t sc f ch:=by
 unfold bw Lx;rw[H4 sc _ h];unfold vY;dsimp only;rw[gL n (t.parts.getD 0 default) sc (cb f) ch,bR];generalize bw n (t.parts.getD 0 default) sc f ch=A;dsimp only;have e1:(cb f++A.1++[(⟨12,0,[],[],[],t.pos⟩:Opn)]).length=f+A.1.length+1:=by simp only[Mq,bR,Mr]
 rw[gL n (t.parts.getD 1 default) _ (cb f++A.1++[(⟨12,0,[],[],[],t.pos⟩:Opn)]) A.2,e1];simp only[MH,gl]
def iU(xs:List Opn)(t:Trm):List Opn:=
 if t.kind=1 then xs++[⟨1,t.n,[],[],[],t.pos⟩]else if t.kind=2 then xs++[⟨2,0,t.name,[],[],t.pos⟩]else if t.kind=3 then xs++[⟨3,1,[],[],[],t.pos⟩]else if t.kind=4 then xs++[⟨3,0,[],[],[],t.pos⟩]
 else if(eV t).2=true then xs++[(eV t).1]else xs
theorem Ly{n:Nat}{t:Trm}(sc:List Nam)(f:Nat)(ch:List Chnk)(h:¬t.kind=5/\¬t.kind=6/\¬t.kind=12/\¬t.kind=13/\¬t.kind=14)(hp:t.kind=1∨t.kind=2∨t.kind=3∨t.kind=4->t.parts=[]){y:CS}(hy:fP (aX n) sc t.parts (cb f,ch)=(cb f++y.1,y.2)):bw (n+1) t sc f ch=(iU y.1 t,y.2):=by
 obtain⟨h5,h6,h12,h13,h14⟩:=h;have nil:t.parts=[]->y.1=[]/\y.2=ch:=fun z=>by rw[z]at hy;have e1:=NT Prod.fst hy;have e2:=NT Prod.snd hy;simp only[fP]at e1 e2;exact⟨(List.append_right_eq_self.1 e1.symm),e2.symm⟩
 unfold bw iU;by_cases k1:t.kind=1
 ·obtain⟨z1,z2⟩:=nil (hp (by omega));rw[KI sc _ k1,Mu k1,z1,z2];simp only[gl,Nc]
 by_cases k2:t.kind=2
 ·obtain⟨z1,z2⟩:=nil (hp (by omega));rw[KJ sc _ k2,Mp k1,Mu k2,z1,z2];simp only[gl,Nc]
 by_cases k3:t.kind=3
 ·obtain⟨z1,z2⟩:=nil (hp (by omega));rw[KK sc _ k3,Mp k1,Mp k2,Mu k3,z1,z2];simp only[gl,Nc]
 by_cases k4:t.kind=4
 ·obtain⟨z1,z2⟩:=nil (hp (by omega));rw[KM sc _ k4,Mp k1,Mp k2,Mp k3,Mu k4,z1,z2];simp only[gl,Nc]
 rw[KP sc _ ⟨k1,k2,k3,k4,h5,h6,h12,h13,h14⟩,Mp k1,Mp k2,Mp k3,Mp k4];unfold tO;rw[hy];split
 ·simp only[MH,gl]
 ·simp only[gl]
end Go.Pd
end
noncomputable section
namespace Go.Pd
open Go Go.AL
def jL(t:Trm):Bool:=fQ t&&
 (if t.kind=1 then decide (0<=t.n)&&decide (t.parts.length=0)else if t.kind=2∨t.kind=3∨t.kind=4 then decide (t.parts.length=0)else if t.kind=7 then decide (0<t.parts.length)else true)
theorem kr{t:Trm}(h:jL t=true):fQ t=true:=by unfold jL at h;rw[Mo]at h;exact h.1
theorem Lz{t:Trm}(h:jL t=true)(k:t.kind=1):0<=t.n:=by unfold jL at h;rw[Mo,Mu k,Mo]at h;exact Xo h.2.1
theorem LB{t:Trm}(h:jL t=true)(k:t.kind=1∨t.kind=2∨t.kind=3∨t.kind=4):t.parts=[]:=by
 unfold jL at h;rw[Mo]at h;have h:=h.2;rcases k with k|k
 ·rw[Mu k,Mo]at h;exact My (Xo h.2)
 ·rw[Mp (by omega),Mu k]at h;exact My (Xo h)
theorem LC{t:Trm}(h:jL t=true)(k:t.kind=7):0<t.parts.length:=by unfold jL at h;rw[Mo,Mp (by omega),Mp (by omega),Mu k]at h;exact Xo h.2
theorem xZ{t:Trm}(h:allT jL t=true):allT fQ t=true:=lY (g:=jL) (fun x a _=>kr a) _ t (Mx _) h h
def NoM(l:List Opn):Prop:=∀o∈l,o.n≠-1
theorem NoM.app{l r:List Opn}(h:NoM l)(g:NoM r):NoM (l++r):=fun o ho=>(MW.1 ho).elim (h o) (g o)
theorem NoM.one{o:Opn}(h:o.n≠-1):NoM [o]:=fun x hx=>by rw[Nf]at hx;subst hx;exact h
theorem NoM.setN{l:List Opn}(h:NoM l)(k:Int){v:Int}(hv:v≠-1):NoM (setN l k v):=fun o ho=>by
 rcases List.mem_or_eq_of_mem_set ho with q|q
 ·exact h o q
 ·subst q;exact hv
theorem NoM.getD{l:List Opn}(h:NoM l)(k:Nat):(l.getD k default).n≠-1:=by
 by_cases q:k<l.length
 ·exact h _ (H0 q)
 ·rw[Ms,Mt (by omega)];exact(by decide:(0:Int)≠-1)
theorem NoM.setTo{l:List Opn}(h:NoM l)(k:Int)(s:List Int):NoM (setTo l k s):=fun o ho=>by
 rcases List.mem_or_eq_of_mem_set ho with q|q
 ·exact h o q
 ·subst q;exact h.getD _
theorem NoM.setAll{v:Int}(hv:v≠-1):∀(js:List Int) {l:List Opn},NoM l->NoM (setAll v js l)
 |[],l,h=>h
 |j::r,l,h=>NoM.setAll hv r (h.setN j hv)
theorem sD(n:Nat):((n:Nat):Int)≠-1:=by omega
theorem y9(sc:List Nam)(t:Trm):∀k,k<=sc.length->(dG sc t k).n≠-1
 |0,_=>(by decide:(110:Int)≠-1)
 |k+1,h=>by
  rw[dG];split
  ·show(sc.length:Int)-1-k≠-1;omega
  ·exact y9 sc t k (by omega)
theorem AE{t:Trm}(h:t.kind=7->0<t.parts.length):(eV t).1.n≠-1:=by
 unfold eV;split
 ·rename_i k;have:=h k;show(t.parts.length:Int)-1≠-1;omega
 all_goals repeat' split
 all_goals first|exact(by decide:(0:Int)≠-1)|exact sD _
def HM(T:Trm->List Nam->CS->CS)(n:Nat):Prop:=∀t sc x,szT t<=n->allT jL t=true->NoM x.1->NoM (T t sc x).1
theorem HM.part{T:Trm->List Nam->CS->CS}{n:Nat}(H:HM T n){t:Trm}(hs:szTL t.parts<=n)(ho:allT jL t=true){i:Nat}(hi:i<t.parts.length)(sc:List Nam){x:CS}(hx:NoM x.1):NoM (T (t.parts.getD i default) sc x).1:=
 H _ sc x (NA (cE (db hi)) hs) (de ho (db hi)) hx
theorem CZ{T:Trm->List Nam->CS->CS}{n:Nat}(H:HM T n)(sc:List Nam):∀(l:List Trm)(x:CS),szTL l<=n->(∀t∈l,allT jL t=true)->NoM x.1->NoM (fP T sc l x).1
 |[],x,_,_,hx=>hx
 |t::r,x,hs,ho,hx=>by rw[szTL]at hs;rw[fP];exact CZ H sc r _ (by omega) (fun u hu=>ho u (MK _ hu)) (H t sc x (by omega) (ho t (N2 ..)) hx)
theorem D9{T:Trm->List Nam->CS->CS}{n:Nat}(H:HM T n){t:Trm}(hs:szTL t.parts<=n)(ho:allT jL t=true)(sc:List Nam):∀(k i:Nat)(ts js:List Int)(x:CS),i+1+k<=t.parts.length->NoM x.1->NoM (fB T t sc k i ts js x).2.2.1
 |0,i,ts,js,x,_,hx=>hx
 |k+1,i,ts,js,x,h,hx=>by
  rw[fB];refine D9 H hs ho sc k (i+1) _ _ _ (by omega) ((H.part hs ho (i:=i+1) (by omega) _ hx).app fun o m=>?_);simp only[MJ,O5,or_false]at m;rcases m with rfl|rfl
  ·exact(by decide:(1:Int)≠-1)
  ·exact(by decide:(0:Int)≠-1)
theorem Da:∀n,HM (aX n) n
 |0=>fun t sc x h _ _=>absurd (dh t) (by omega)
 |n+1=>fun t sc x h ho hx=>by
  have H:=Da n;have hs:szTL t.parts<=n:=by rw[cz]at h;omega
  have oc:=kr (b6 ho);have z0:(0:Int)≠-1:=by decide
  have z1:(1:Int)≠-1:=by decide
  rw[aX];unfold iP;split
  ·rename_i k;exact hx.app (.one (by have:=Lz (b6 ho) k;show t.n≠-1;omega))
  split
  ·exact hx.app (.one z0)
  split
  ·exact hx.app (.one z1)
  split
  ·exact hx.app (.one z0)
  split
  ·exact hx.app (.one (y9 sc t _ (Mx _)))
  split
  ·exact NoM.app (show NoM (jK (aX n) t sc x).1 from hx) (.one (sD _))
  split
  ·rename_i k;have hp:=qp oc k;unfold oQ;exact(H.part hs ho (by omega) sc (NoM.setN (((H.part hs ho (by omega) sc ((H.part hs ho (by omega) sc hx).app (.one z0))).app (.one z0))) _ (sD _))).setN _ (sD _)
  split
  ·rename_i k;have hp:=gj oc k;unfold nO;exact NoM.setAll (sD _) _ ((D9 H hs ho sc _ 0 [] [] _ (by omega) ((H.part hs ho (by omega) sc hx).app (.one z0))).setTo _ _)
  split
  ·rename_i k;have hp:=qq oc k;unfold vY;exact(H.part hs ho (by omega) _ ((H.part hs ho (by omega) sc hx).app (.one z0))).app (.one z1)
  ·unfold tO;have a:=CZ H sc t.parts x hs (fun _ hu=>de ho hu) hx;split
   ·exact NoM.app a (.one (AE fun k=>LC (b6 ho) k))
   ·exact a
theorem Db{n:Nat}{t:Trm}(sc:List Nam)(f:Nat)(ch:List Chnk)(h:szT t<=n)(ho:allT jL t=true):NoM (bw n t sc f ch).1:=fun o hm=>by refine Da n t sc (cb f,ch) h ho (fun o hm=>?_) o (List.mem_of_mem_drop hm);rw[(P4.1 hm).2];exact(by decide:(0:Int)≠-1)
def eX(v:Int)(o:Opn):Opn:=if o.n=-1 then{o with n:=v}else o
theorem nR{l:List Opn}(h:NoM l)(v:Int):l.map (eX v)=l:=by
 conv=>rhs;rw[<-List.map_id l]
 exact Oz fun o ho=>Mp (h o ho)
theorem pK(v j:Int):∀(js:List Int)(l:List Opn),setAll v (js++[j]) l=setN (setAll v js l) j v
 |[],l=>rfl
 |i::r,l=>by rw[Ng,setAll,setAll,pK v j r]
theorem Eo(p r:List Opn)(k v:Int)(h:k.toNat<p.length):setN (p++r) k v=setN p k v++r:=by unfold setN;rw[List.set_append_left _ _ h,Ms,MA h,Ms]
theorem pL(v:Int)(r:List Opn):∀(js:List Int)(p:List Opn),(∀j∈js,j.toNat<p.length)->setAll v js (p++r)=setAll v js p++r
 |[],p,_=>rfl
 |j::t,p,h=>by rw[setAll,setAll,Eo _ _ _ _ (h j (N2 ..))];exact pL v r t _ fun i hi=>by rw[fm];exact h i (MK _ hi)
theorem AF(l:List Opn)(j k v:Int)(s:List Int):setN (setTo l k s) j v=setTo (setN l j v) k s:=by
 unfold setN setTo;by_cases e:j.toNat=k.toNat
 ·rw[e,List.set_set,List.set_set];by_cases q:k.toNat<l.length
  ·simp only[Ms,List.getElem?_set_self q,Nl]
  ·rw[O9 (by omega),O9 (by omega)]
 ·have e':¬k.toNat=j.toNat:=fun z=>e z.symm;rw[List.set_comm _ _ e];simp only[Ms];rw[List.getElem?_set_ne e',List.getElem?_set_ne e]
theorem nS(v k:Int)(s:List Int):∀(js:List Int)(l:List Opn),setAll v js (setTo l k s)=setTo (setAll v js l) k s
 |[],l=>rfl
 |j::r,l=>by rw[setAll,setAll,AF,nS v k s r]
theorem Ep(v k:Int)(s:List Int)(l:List Opn):(setTo l k s).map (eX v)=setTo (l.map (eX v)) k s:=by
 unfold setTo;by_cases q:k.toNat<l.length
 ·rw[List.map_set];congr 1;simp only[Ms,MS,Mn q,NB,Nl];unfold eX;split<;>rfl
 ·rw[O9 (by omega),O9 (by rw[MZ];omega)]
def pZ(n:Nat)(t:Trm)(sc:List Nam)(f:Nat):Nat->Nat->List Int->CS->List Int×CS
 |0,_,ts,y=>(ts,y)
 |k+1,i,ts,y=>
  let r:=bw n (t.parts.getD (i+1) default) (sc++[nm0 (t.vars.getD i [])]) (f+y.1.length) y.2
  pZ n t sc f k (i+1) (ts++[((f+y.1.length:Nat):Int)]) (y.1++r.1++[⟨13,1,[],[],[],t.pos⟩,⟨15,-1,[],[],[],t.pos⟩],r.2)
def JsI(f:Nat)(js:List Int)(l:List Opn):Prop:=(∀v,setAll v js (cb f++l.map (eX 0))=cb f++l.map (eX v))/\∀j∈js,j.toNat<f+l.length
theorem Dc{n:Nat}{t:Trm}(hs:szTL t.parts<=n)(ho:allT jL t=true)(sc:List Nam)(f:Nat):∀(k i:Nat)(ts js:List Int)(y:CS),i+1+k<=t.parts.length->JsI f js y.1->
  ∃js',fB (aX n) t sc k i ts js (cb f++y.1.map (eX 0),y.2)=((pZ n t sc f k i ts y).1,js',(cb f++(pZ n t sc f k i ts y).2.1.map (eX 0),(pZ n t sc f k i ts y).2.2))/\JsI f js' (pZ n t sc f k i ts y).2.1
 |0,i,ts,js,y,_,hj=>⟨js,rfl,hj⟩
 |k+1,i,ts,js,y,h,hj=>by
  rw[fB,pZ];have el:(cb f++y.1.map (eX 0)).length=f+y.1.length:=by rw[Mq,bR,MZ]
  rw[gL n _ _ (cb f++y.1.map (eX 0)) y.2,el];have nm:=Db (n:=n) (t:=t.parts.getD (i+1) default) (sc++[nm0 (t.vars.getD i [])]) (f+y.1.length) y.2 (NA (cE (db (by omega))) hs) (de ho (db (by omega)));generalize bw n (t.parts.getD (i+1) default) (sc++[nm0 (t.vars.getD i [])]) (f+y.1.length) y.2=R at *
  dsimp only;have em:∀v:Int,(y.1++R.1++[(⟨13,1,[],[],[],t.pos⟩:Opn),⟨15,-1,[],[],[],t.pos⟩]).map (eX v)=y.1.map (eX v)++R.1++[(⟨13,1,[],[],[],t.pos⟩:Opn),⟨15,v,[],[],[],t.pos⟩]:=fun v=>by rw[NR,NR,nR nm];rfl
  have e2:cb f++y.1.map (eX 0)++R.1++[(⟨13,1,[],[],[],t.pos⟩:Opn),⟨15,0,[],[],[],t.pos⟩]=cb f++(y.1++R.1++[(⟨13,1,[],[],[],t.pos⟩:Opn),⟨15,-1,[],[],[],t.pos⟩]).map (eX 0):=by rw[em];simp only[MH]
  rw[e2];have ll:([(⟨13,1,[],[],[],t.pos⟩:Opn),⟨15,-1,[],[],[],t.pos⟩]:List Opn).length=2:=rfl;refine Dc hs ho sc f k (i+1) _ _ (y.1++R.1++[(⟨13,1,[],[],[],t.pos⟩:Opn),⟨15,-1,[],[],[],t.pos⟩],R.2) (by omega) ⟨fun v=>?_,fun j hm=>?_⟩
  ·rw[pK];simp only;rw[em,em];have l1:=pL v (R.1++[(⟨13,1,[],[],[],t.pos⟩:Opn),⟨15,0,[],[],[],t.pos⟩]) js (cb f++y.1.map (eX 0)) (fun j hm=>by rw[el];exact hj.2 j hm);have e3:cb f++(y.1.map (eX 0)++R.1++[(⟨13,1,[],[],[],t.pos⟩:Opn),⟨15,0,[],[],[],t.pos⟩])=cb f++y.1.map (eX 0)++(R.1++[(⟨13,1,[],[],[],t.pos⟩:Opn),⟨15,0,[],[],[],t.pos⟩]):=by simp only[MH]
   rw[e3,l1,hj.1 v];have sa:=qt (cb f++y.1.map (eX v)++R.1++[(⟨13,1,[],[],[],t.pos⟩:Opn)]) ⟨15,0,[],[],[],t.pos⟩ [] v;have e4:((cb f++y.1.map (eX v)++R.1++[(⟨13,1,[],[],[],t.pos⟩:Opn)]).length:Int)=((cb f++y.1.map (eX 0)++R.1).length:Int)+1:=by simp only[Mq,MZ,Mr];omega
   rw[e4]at sa;simp only[MH,Ng,Nc]at sa⊢;exact sa
  ·rcases MW.1 hm with m|m
   ·have:=hj.2 j m;simp only[Mq,ll];omega
   ·rw[Nf]at m;subst m;simp only[Mq,MZ,bR,ll];omega
def sG(n:Nat)(t:Trm)(sc:List Nam)(f:Nat)(ch:List Chnk):CS:=
 let a:=bw n (t.parts.getD 0 default) sc f ch
 let r:=pZ n t sc f t.names.length 0 [] (a.1++[⟨16,0,[],t.names,[],t.pos⟩],a.2)
 ((setTo r.2.1 a.1.length r.1).map (eX ((f+r.2.1.length:Nat):Int)),r.2.2)
theorem JA{n:Nat}{t:Trm}(sc:List Nam)(f:Nat)(ch:List Chnk)(h:t.kind=13)(hs:szTL t.parts<=n)(ho:allT jL t=true):bw (n+1) t sc f ch=sG n t sc f ch:=by
 have hp:=(gj (kr (b6 ho)) h).1;unfold bw sG;rw[H3 sc _ h];unfold nO;dsimp only;rw[gL n (t.parts.getD 0 default) sc (cb f) ch,bR];have nm:=Db (n:=n) (t:=t.parts.getD 0 default) sc f ch (NA (cE (db (by omega))) hs) (de ho (db (by omega)));generalize bw n (t.parts.getD 0 default) sc f ch=A at *
 dsimp only;have nm2:NoM (A.1++[(⟨16,0,[],t.names,[],t.pos⟩:Opn)]):=nm.app (.one (by decide:(0:Int)≠-1));have e1:cb f++A.1++[(⟨16,0,[],t.names,[],t.pos⟩:Opn)]=cb f++(A.1++[(⟨16,0,[],t.names,[],t.pos⟩:Opn)]).map (eX 0):=by rw[nR nm2,MH]
 rw[e1];obtain⟨js,r1,r2,r3⟩:=Dc hs ho sc f t.names.length 0 [] [] (A.1++[(⟨16,0,[],t.names,[],t.pos⟩:Opn)],A.2) (by omega) ⟨fun v=>by rw[nR nm2,nR nm2];rfl,fun j hm=>by cases hm⟩;rw[r1];generalize pZ n t sc f t.names.length 0 [] (A.1++[(⟨16,0,[],t.names,[],t.pos⟩:Opn)],A.2)=D at *
 dsimp only;rw[nS,r2];have e2:(cb f++D.2.1.map (eX 0)).length=f+D.2.1.length:=by rw[Mq,bR,MZ]
 rw[e2,oV _ _ _ _ (by rw[bR,Mv,Mq,bR];omega),gl,Ep];have e3:(((((cb f++A.1).length:Nat):Int).toNat-(cb f).length:Nat):Int)=(A.1.length:Int):=by rw[Mv,Mq,bR];omega
 rw[e3]
end Go.Pd
end
noncomputable section
namespace Go.Pd
open Go Go.AL
def chS(ch:List Chnk):List (Nat×SObj):=[(900,.box (.glst ch.length ch.length 901)),(901,.grow (.st .chunk) ch.length ch)]
def sH(F:List Bndg->Int->List Chnk->Trm->Ans):Pat:=fun args S=>
 match args,S with
 |[a,b,.int .i64 f,.ptr 900 0],[(900,.box (.glst s n 901)),(901,.grow (.st .chunk) s' ch)]=>
  (match arg (.st .term) a,arg (.lst (.st .bind)) b with
  |some t,some l=>some {F l f ch t with ob:=some ((s=ch.length/\n=ch.length/\s'=ch.length)/\∀q,(F l f ch t).ob=some q->q)}
  |_,_=>none)
 |_,_=>none
theorem w8[Tabs]{P:Program}{g:Nat}{F:List Bndg->Int->List Chnk->Trm->Ans}(he:au P g)(h:∀l f ch t,Wf (.st .term) t->Wf (.lst (.st .bind)) l->(∀q,(F l f ch t).ob=some q->q)->aw P g [.st .term t,.lst (.st .bind) l none,.int .i64 f,.ptr 900 0] (chS ch) (F l f ch t)):ag P g (sH F):=by
 intro args S A hA ho _;unfold sH at hA;split at hA
 ·split at hA
  ·rename_i t l ht hl;simp only[Xs]at hA;subst hA;obtain⟨⟨rfl,rfl,rfl⟩,hb⟩:=ho _ rfl;exact⟨he,aw.args (.cons (Rd.arg ht) (.cons (Rd.arg hl) (.cons (Rd.refl _) (.cons (Rd.refl _) .nil)))) (aw.wf fun hw=>h _ _ _ _ hw.one hw.two hb)⟩
  ·cases hA
 ·cases hA
def JB(F:List Bndg->List Chnk->Trm->Ans):Pat:=fun args S=>
 match args,S with
 |[a,b,.ptr 900 0],[(900,.box (.glst s n 901)),(901,.grow (.st .chunk) s' ch)]=>
  (match arg (.st .term) a,arg (.lst (.st .bind)) b with
  |some t,some l=>some {F l ch t with ob:=some ((s=ch.length/\n=ch.length/\s'=ch.length)/\∀q,(F l ch t).ob=some q->q)}
  |_,_=>none)
 |_,_=>none
theorem JC[Tabs]{P:Program}{g:Nat}{F:List Bndg->List Chnk->Trm->Ans}(he:au P g)(h:∀l ch t,Wf (.st .term) t->Wf (.lst (.st .bind)) l->(∀q,(F l ch t).ob=some q->q)->aw P g [.st .term t,.lst (.st .bind) l none,.ptr 900 0] (chS ch) (F l ch t)):ag P g (JB F):=by
 intro args S A hA ho _;unfold JB at hA;split at hA
 ·split at hA
  ·rename_i t l ht hl;simp only[Xs]at hA;subst hA;obtain⟨⟨rfl,rfl,rfl⟩,hb⟩:=ho _ rfl;exact⟨he,aw.args (.cons (Rd.arg ht) (.cons (Rd.arg hl) (.cons (Rd.refl _) .nil))) (aw.wf fun hw=>h _ _ _ hw.one hw.two hb)⟩
  ·cases hA
 ·cases hA
def LD(F:List Opn->Trm->Ans):Pat:=fun args S=>
 match args,S with
 |[.glst s n 900,b],[(900,.grow (.st .op) s' xs)]=>
  (match arg (.st .term) b with
  |some t=>some {F xs t with ob:=some ((s=xs.length/\n=xs.length/\s'=xs.length)/\∀q,(F xs t).ob=some q->q)}
  |none=>none)
 |_,_=>none
theorem JD[Tabs]{P:Program}{g:Nat}{F:List Opn->Trm->Ans}(he:au P g)(h:∀xs t,Wf (.st .term) t->(∀q,(F xs t).ob=some q->q)->aw P g [.glst xs.length xs.length 900,.st .term t] [(900,.grow (.st .op) xs.length xs)] (F xs t)):ag P g (LD F):=by
 intro args S A hA ho _;unfold LD at hA;split at hA
 ·split at hA
  ·rename_i t ht;simp only[Xs]at hA;subst hA;obtain⟨⟨rfl,rfl,rfl⟩,hb⟩:=ho _ rfl;exact⟨he,aw.args (.cons (Rd.refl _) (.cons (Rd.arg ht) .nil)) (aw.wf fun hw=>h _ _ hw.two hb)⟩
  ·cases hA
 ·cases hA
def DoO(n:Nat)(l:List Bndg)(f:Int)(ch:List Chnk)(t:Trm):Prop:=szT t<=n/\allT jL t=true/\0<=f/\f+4000000 *(szT t:Int)<=1000000000000/\l.length+2000000 *szT t<=1000000000000/\ch.length+szT t<=1000000000000
def yb(n:Nat)(l:List Bndg)(f:Int)(ch:List Chnk)(t:Trm):Ans:=⟨some (DoO n l f ch t),none,.glst (bw n t (l.map nmB) f.toNat ch).1.length (bw n t (l.map nmB) f.toNat ch).1.length 77,(77,.grow (.st .op) (bw n t (l.map nmB) f.toNat ch).1.length (bw n t (l.map nmB) f.toNat ch).1)::chS (bw n t (l.map nmB) f.toNat ch).2⟩
def DoK(n k:Nat)(l:List Bndg)(f:Int)(ch:List Chnk)(t:Trm):Prop:=t.kind=k/\DoO (n+1) l f ch t
def LF(n:Nat)(l:List Bndg)(ch:List Chnk)(t:Trm):Ans:=⟨some (DoK n 6 l 0 ch t),none,.int .i64 ch.length,chS (xY n t (l.map nmB) ch)⟩
def H6(n:Nat)(l:List Bndg)(f:Int)(ch:List Chnk)(t:Trm):Ans:=⟨some (DoK n 13 l f ch t),none,.glst (sG n t (l.map nmB) f.toNat ch).1.length (sG n t (l.map nmB) f.toNat ch).1.length 77,(77,.grow (.st .op) (sG n t (l.map nmB) f.toNat ch).1.length (sG n t (l.map nmB) f.toNat ch).1)::chS (sG n t (l.map nmB) f.toNat ch).2⟩
def behA(xs:List Opn)(t:Trm):Ans:=⟨some ((xs.length+1) *88<=140737488355328),none,.glst (iU xs t).length (iU xs t).length 900,[(900,.grow (.st .op) (iU xs t).length (iU xs t))]⟩
def mo(s:Str):Bndg:=⟨[],s,default⟩
def mY(l:List Bndg)(ns:List Str):List Bndg:=l++ns.map mo
theorem JE(l:List Bndg)(ns:List Str):(mY l ns).map nmB=l.map nmB++ns.map nm0:=by unfold mY;rw[NR,PJ];rfl
theorem ye(l:List Bndg)(ns:List Str):(mY l ns).length=l.length+ns.length:=by unfold mY;rw[Mq,MZ]
def kE(n:Nat)(l:List Bndg)(f:Int)(ch:List Chnk)(t:Trm)(i:Nat)(ts:List Int)(y:CS):Prop:=
 pZ n t (l.map nmB) f.toNat (t.names.length-i) i ts y=pZ n t (l.map nmB) f.toNat t.names.length 0 [] ((bw n (t.parts.getD 0 default) (l.map nmB) f.toNat ch).1++[⟨16,0,[],t.names,[],t.pos⟩],(bw n (t.parts.getD 0 default) (l.map nmB) f.toNat ch).2)/\
 f.toNat+y.1.length+4000000 *szTL (t.parts.drop (i+1))+(t.names.length-i) *2<=1000000000000/\y.2.length+szTL (t.parts.drop (i+1))<=1000000000000/\(bw n (t.parts.getD 0 default) (l.map nmB) f.toNat ch).1.length<y.1.length
def JF(S0:St)(f:List Opn->List Chnk->LA):LA:=
 match ak S0.b 78021,ak S0.b 901 with
 |some (.grow (.st .op) _ ops),some (.grow (.st .chunk) _ ch)=>f ops ch
 |_,_=>⟨Nat,fun _=>False,fun _=>[],fun _=>[],fun _=>0⟩
def AG(n:Nat)(t:Trm)(l:List Bndg):Prop:=l.length<=1000000/\(aZ t=0->DoO n l 0 ch0 t)
theorem DoO.part{n:Nat}{l l':List Bndg}{f f':Int}{ch ch':List Chnk}{t:Trm}(h:DoO (n+1) l f ch t){i c e:Nat}(hi:i<t.parts.length)(h0:0<=f')(hf:f'<=f+4000000 *(c:Int)+e)(hc:c+szT (t.parts.getD i default)<=szTL t.parts)(he:e<=4000000)(hl:l'.length<=l.length+2000000)(hch:ch'.length<=ch.length+c+1):DoO n l' f' ch' (t.parts.getD i default):=by obtain⟨h1,h2,h3,h4,h5,h6⟩:=h;rw[cz]at h1 h4 h5 h6;exact⟨by omega,de h2 (db hi),h0,by omega,by omega,by omega⟩
theorem DoO.bd{n:Nat}{l:List Bndg}{f:Int}{ch:List Chnk}{t:Trm}(h:DoO n l f ch t)(sc:List Nam):(bw n t sc f.toNat ch).1.length<=4000000 *szT t/\ch.length<=(bw n t sc f.toNat ch).2.length/\(bw n t sc f.toNat ch).2.length<=ch.length+szT t:=Jx sc f.toNat ch h.1 (xZ h.2.1)
theorem yf{n:Nat}{l:List Bndg}{f:Int}{ch:List Chnk}{t:Trm}(ho:DoO (n+1) l f ch t)(hk:t.kind=13):kE n l f ch t 0 [] ((bw n (t.parts.getD 0 default) (l.map nmB) f.toNat ch).1++[⟨16,0,[],t.names,[],t.pos⟩],(bw n (t.parts.getD 0 default) (l.map nmB) f.toNat ch).2):=by
 have oc:=kr (b6 ho.2.1);have hc:=(gj oc hk).1;have hn:=eK oc;have e0:=aY (l:=t.parts) (i:=0) (by omega);rw[Nq]at e0;have o0:DoO n l f ch (t.parts.getD 0 default):=ho.part (c:=0) (e:=0) (by omega) ho.2.2.1 (by omega) (by omega) (by omega) (by omega) (by omega);obtain⟨b1,b2,b3⟩:=o0.bd (l.map nmB);obtain⟨h1,h2,h3,h4,h5,h6⟩:=ho;rw[cz]at h1 h4 h5 h6;refine⟨rfl,?_,?_,?_⟩
 ·simp only[Mq,Mr];omega
 ·show(bw n (t.parts.getD 0 default) (l.map nmB) f.toNat ch).2.length+_<=_;omega
 ·simp only[Mq,Mr];omega
theorem sI{n:Nat}{l:List Bndg}{f:Int}{ch:List Chnk}{t:Trm}{i:Nat}{ts:List Int}{y:CS}(ho:DoO (n+1) l f ch t)(hk:t.kind=13)(hi:i<t.names.length)(h:kE n l f ch t i ts y)(v:Str):DoO n (l++[mo v]) (f+(y.1.length:Int)) y.2 (t.parts.getD (i+1) default):=by have hc:=(gj (kr (b6 ho.2.1)) hk).1;have e0:=aY (l:=t.parts) (i:=i+1) (by omega);have p:=cE (db (l:=t.parts) (i:=i+1) (by omega));obtain⟨h1,h2,h3,h4,h5,h6⟩:=ho;obtain⟨i1,i2,i3,i4⟩:=h;rw[cz]at h1 h4 h5 h6;refine⟨by omega,de h2 (db (by omega)),by omega,by omega,?_,by omega⟩;rw[Mq,Mr];omega
theorem AH{n:Nat}{l:List Bndg}{f:Int}{ch:List Chnk}{t:Trm}{i:Nat}{ts:List Int}{y:CS}(ho:DoO (n+1) l f ch t)(hk:t.kind=13)(hi:i<t.names.length)(h:kE n l f ch t i ts y) :
  kE n l f ch t (i+1) (ts++[f+(y.1.length:Int)]) (y.1++(bw n (t.parts.getD (i+1) default) ((l++[mo (t.vars.getD i default)]).map nmB) (f+(y.1.length:Int)).toNat y.2).1++[⟨13,1,[],[],[],t.pos⟩,⟨15,-1,[],[],[],t.pos⟩],(bw n (t.parts.getD (i+1) default) ((l++[mo (t.vars.getD i default)]).map nmB) (f+(y.1.length:Int)).toNat y.2).2):=by
 have hc:=(gj (kr (b6 ho.2.1)) hk).1;have e0:=aY (l:=t.parts) (i:=i+1) (by omega);obtain⟨b1,b2,b3⟩:=(sI ho hk hi h (t.vars.getD i default)).bd ((l++[mo (t.vars.getD i default)]).map nmB);obtain⟨i1,i2,i3,i4⟩:=h;have f0:=ho.2.2.1;have e:∀a b:Opn,([a,b]:List Opn).length=2:=fun _ _=>rfl;have ef:(f+(y.1.length:Int)).toNat=f.toNat+y.1.length:=by omega
 have ei:f+(y.1.length:Int)=((f.toNat+y.1.length:Nat):Int):=by omega
 refine⟨?_,?_,?_,?_⟩
 ·rw[<-i1];obtain⟨k,hk'⟩:∃k,t.names.length-i=k+1:=⟨t.names.length-i-1,by omega⟩;have hk2:t.names.length-(i+1)=k:=by omega
  rw[hk',hk2,pZ,NR,ef,ei];rfl
 ·simp only[Mq,e];omega
 ·show(bw n (t.parts.getD (i+1) default) _ (f+(y.1.length:Int)).toNat y.2).2.length+_<=_;omega
 ·simp only[Mq,e];omega
theorem Er{n:Nat}{l:List Bndg}{f:Int}{ch:List Chnk}{t:Trm}{ts:List Int}{y:CS}(h0:0<=f)(h:kE n l f ch t t.names.length ts y):sG n t (l.map nmB) f.toNat ch=((setTo y.1 (bw n (t.parts.getD 0 default) (l.map nmB) f.toNat ch).1.length ts).map (eX (f+(y.1.length:Int))),y.2):=by
 obtain⟨i1,_⟩:=h;rw[OV,pZ]at i1;unfold sG;dsimp only;rw[<-i1];dsimp only;have ei:((f.toNat+y.1.length:Nat):Int)=f+(y.1.length:Int):=by omega
 rw[ei]
def iV(v:Int)(o:List Opn)(i:Nat):List Opn:=(o.take i).map (eX v)++o.drop i
theorem sJ(v:Int)(o:List Opn)(i:Nat):(iV v o i).length=o.length:=by unfold iV;rw[Mq,MZ,NI,O6];omega
theorem H7(v:Int)(o:List Opn):iV v o o.length=o.map (eX v):=by unfold iV;rw[NS,MX,Ny]
theorem H8(v:Int){o:List Opn}{i:Nat}(h:i<o.length):(iV v o i).getD i default=o.getD i default:=by
 unfold iV;have e:((o.take i).map (eX v)).length=i:=by rw[MZ,NI];omega
 rw[sA _ _ _ (by omega),e,OV,CU h];rfl
theorem uC(v:Int){o:List Opn}{i:Nat}(h:i<o.length):iV v o (i+1)=(o.take i).map (eX v)++eX v (o.getD i default)::o.drop (i+1):=by unfold iV;rw[nQ h,NR,MH];rfl
theorem H9(v:Int){o:List Opn}{i:Nat}(h:i<o.length)(hn:(o.getD i default).n=-1):setN (iV v o i) (i:Int) v=iV v o (i+1):=by
 have e:((o.take i).map (eX v)).length=i:=by rw[MZ,NI];omega
 rw[uC v h];unfold iV;have s:=qt ((o.take i).map (eX v)) (o.getD i default) (o.drop (i+1)) v;rw[e]at s;rw[CU h,s];unfold eX;rw[Mu hn]
theorem Es(v:Int){o:List Opn}{i:Nat}(h:i<o.length)(hn:(o.getD i default).n≠-1):iV v o (i+1)=iV v o i:=by rw[uC v h];unfold iV;rw[CU h];have:eX v (o.getD i default)=o.getD i default:=Mp hn;rw[this]
def yg(n:Nat)(t:Trm)(l:List Bndg):List Chnk:=let r:=bw n t (l.map nmB) 0 ch0;r.2.set 0 {(r.2.getD 0 default)with ops:=r.1}
theorem JG(n:Nat)(t:Trm)(l:List Bndg):yg n t l=El n t l:=by unfold yg El;rw[gL n t _ [] ch0];rfl
theorem Et{t:Trm}(h:ax t=true)(hn:t.names.length<=1048576):jL t=true:=by
 have oc:=uB h hn;unfold ax at h;rw[Mo]at h;have h:=h.2;unfold jF at h;unfold jL;rw[Mo];refine⟨oc,?_⟩;by_cases k1:t.kind=1
 ·rw[Mu k1];rw[Mu k1,Mo,Mo,Mo]at h;have r:=iQ h.2;rw[Mo];exact⟨h.1.1.2,Xd r.2.2⟩
 rw[Mp k1];rw[Mp k1]at h;by_cases k2:t.kind=2
 ·rw[Mu (.inl k2)];rw[Mu k2,Mo]at h;exact Xd (iQ h.2).2.2
 rw[Mp k2]at h;by_cases k3:t.kind=3∨t.kind=4
 ·rw[Mu (.inr k3)];rw[Mu k3,Mo]at h;exact Xd (iQ h.2).2.2
 rw[Mp k3]at h;rw[Mp (by omega)];by_cases k7:t.kind=7
 ·rw[Mu k7];rw[Mp (by omega),Mp (by omega),Mu k7,Mo,Mo]at h;exact h.1.2
 ·rw[Mp k7]
theorem JH{f:Trm->Bool}(hf:∀x,f x=true->x.names.length<=1048576){t:Trm}{l:List Bndg}(h:allT f t=true)(hz:szcT t 500<=500)(hl:l.length<=100):AA (szT t) t l/\AG (szT t) t l/\Jw t l=(if aZ t≠0 then[]else yg (szT t) t l,aZ t):=by
 rw[szcT_eq t 500 (by omega)]at hz;refine⟨Jv hf h (by omega) (by omega),⟨by omega,fun c=>⟨Mx _,lY (fun x a b=>Et a (hf x b)) _ t (Mx _) (pJ c) h,by omega,by omega,by omega,?_⟩⟩,?_⟩
 ·show 1+_<=_;omega
 ·unfold Jw;rw[JG]
end Go.Pd
end
section
namespace Go.Pd
open Go.AL
abbrev SR3:=Shape×Int×Flt
abbrev TR3:=Trm×Int×Flt
end Go.Pd
end
section
namespace Go.Pd
open Go.AL
abbrev st(l:List Tokn)(a:Int):PS:=⟨l,a,0,0⟩
variable {l:List Tokn}
section
variable {l:List Tokn} {R:PS->Shape×PS} {R':Int->SR3}
end
end Go.Pd
end
section
namespace Go.AL
variable [Tabs]
section
variable {P:Program}
def p4(τ σ ρ μ:Ty)(F:den τ->den σ->den ρ->den μ->Ans):Pat
 |[a,b,c,d],[]=>(match arg τ a,arg σ b,arg ρ c,arg μ d with|some a,some b,some c,some d=>some (F a b c d)|_,_,_,_=>none)
 |_,_=>none
def p5(τ σ ρ μ ν:Ty)(F:den τ->den σ->den ρ->den μ->den ν->Ans):Pat
 |[a,b,c,d,e],[]=>(match arg τ a,arg σ b,arg ρ c,arg μ d,arg ν e with|some a,some b,some c,some d,some e=>some (F a b c d e)|_,_,_,_,_=>none)
 |_,_=>none
theorem Mi{f:Nat}{τ σ ρ μ ν:Ty}{F:den τ->den σ->den ρ->den μ->den ν->Ans}(he:au P f)
 (h:∀x y z u v,Wf τ x->Wf σ y->Wf ρ z->(∀q,(F x y z u v).ob=some q->q)->aw P f [inj τ x,inj σ y,inj ρ z,inj μ u,inj ν v] [] (F x y z u v)):ag P f (p5 τ σ ρ μ ν F):=by
 intro args S A hA ho _;unfold p5 at hA;split at hA
 ·split at hA
  ·rename_i x y z u v hx hy hz hu hv;simp at hA;subst hA;exact⟨he,aw.args (.cons (Rd.arg hx) (.cons (Rd.arg hy) (.cons (Rd.arg hz) (.cons (Rd.arg hu) (.cons (Rd.arg hv) .nil))))) (aw.wf fun hw=>h x y z u v hw.one hw.two hw.three ho)⟩
  ·cases hA
 ·cases hA
end
end Go.AL
end
section
namespace Go.Pd
open Go.AL
mutual
def sizeF:Shape->Int->Int
 |⟨_,_,_,_,ps⟩,m=>sizeL ps 1 m
def sizeL:List Shape->Int->Int->Int
 |[],n,_=>n
 |p::r,n,m=>if n<=m then sizeL r (n+sizeF p (m-n)) m else n
end
mutual
theorem sizeF_bd:∀(s:Shape)(m:Int),0<=m->1<=sizeF s m/\sizeF s m<=m+1
 |⟨_,_,_,_,ps⟩,m,h=>by simp only[sizeF];exact sizeL_bd ps 1 m (by omega) (by omega)
theorem sizeL_bd:∀(l:List Shape)(n m:Int),1<=n->n<=m+1->1<=sizeL l n m/\sizeL l n m<=m+1
 |[],n,m,h1,h2=>by simp only[sizeL];omega
 |p::r,n,m,h1,h2=>by
  simp only[sizeL];split
  ·have:=sizeF_bd p (m-n) (by omega);exact sizeL_bd r _ m (by omega) (by omega)
  ·omega
end
def dU:Str->Nat
 |[]=>0
 |b::r=>if eY (bI b)=true then dU r+1 else 0
theorem uD:∀s:Str,(dU s=s.length↔(s.all fun c=>eY (bI c))=true)
 |[]=>by simp[dU]
 |b::r=>by
  simp only[dU,ML,NK,Mo];by_cases h:eY (bI b)=true
  ·rw[Mu h,<-uD r];constructor
   ·intro e;exact⟨h,by omega⟩
   ·rintro⟨_,e⟩;omega
  ·rw[Mp h];constructor
   ·intro e;omega
   ·rintro⟨e,_⟩;exact absurd e h
theorem pM(first:Int->Bool)(s:Str):cW first s=(!decide (s=[])&&decide (s.length<=24)&&first (bI (s.getD 0 0))&&decide (dU s=s.length)):=by unfold cW;congr 1;rw[Bool.eq_iff_iff,MD];exact(uD s).symm
def iv(ns:List Str)(n:Int):Bool:=decide ((ns.length:Int)=n)&&ns.all az&&decide ns.Nodup
mutual
def deepF:Shape->Nat
 |⟨_,_,_,_,ps⟩=>maxDeep ps+1
def maxDeep:List Shape->Nat
 |[]=>0
 |p::r=>max (deepF p) (maxDeep r)
end
mutual
theorem deepS_F:∀(s:Shape)(l:Int),deepS s l=l+deepF s-1
 |⟨_,_,_,_,ps⟩,l=>by simp only[deepS,deepF];rw[deepL_F ps (l+1) l (by omega)];omega
theorem deepL_F:∀(ps:List Shape)(m d:Int),m-1<=d->deepL ps m d=max d (m+maxDeep ps-1)
 |[],m,d,h=>by simp only[deepL,maxDeep];omega
 |p::r,m,d,h=>by simp only[deepL,maxDeep];rw[deepL_F r m _ (by omega),deepS_F p m];omega
end
mutual
theorem deepF_sz:∀s:Shape,deepF s<=sz s
 |⟨_,_,_,_,ps⟩=>by have:=maxDeep_sz ps;simp only[deepF,sz];omega
theorem maxDeep_sz:∀l:List Shape,maxDeep l<=szL l
 |[]=>Mx _
 |p::r=>by have:=deepF_sz p;have:=maxDeep_sz r;simp only[maxDeep,szL];omega
end
mutual
theorem sizeF_eq:∀(s:Shape)(m:Int),0<=m->sizeF s m=min (sz s:Int) (m+1)
 |⟨_,_,_,_,ps⟩,m,h=>by simp only[sizeF,sz];rw[sizeL_eq ps 1 m (by omega)];omega
theorem sizeL_eq:∀(l:List Shape)(n m:Int),n<=m+1->sizeL l n m=min (n+szL l) (m+1)
 |[],n,m,h=>by simp only[sizeL,szL];omega
 |p::r,n,m,h=>by
  simp only[sizeL,szL];have:=jl p;split
  ·rw[sizeF_eq p (m-n) (by omega),sizeL_eq r _ m (by omega)];omega
  ·omega
end
theorem LG(s:Shape):cw s=if 400<sizeF s 400 then 3 else if 40<(deepF s:Int)then 91 else if allS bh s=true then 0 else 70:=by
 unfold cw;rw[sizeF_eq s 400 (by omega),deepS_F];have e:(1:Int)+deepF s-1=deepF s:=by omega
 rw[e];by_cases h:400<sz s
 ·rw[Mu h,Mu (show(400:Int)<min (sz s:Int) (400+1) by omega)]
 ·rw[Mp h,Mp (show ¬(400:Int)<min (sz s:Int) (400+1) by omega)]
end Go.Pd
end
section
namespace Go.Pd
open Go.AL
def fb(p:Int):Bool:=decide (0<=p)&&decide (p<=1114111)&&(decide (p<55296)||decide (57343<p))
def jM(n:Int):UInt8:=UInt8.ofNat n.toNat
def cZ(p:Int):Str:=
 if p<128 then[jM p]
 else if p<2048 then[jM (192+p/64),jM (128+p%64)]
 else if p<65536 then[jM (224+p/4096),jM (128+p/64%64),jM (128+p%64)]
 else[jM (240+p/262144),jM (128+p/4096%64),jM (128+p/64%64),jM (128+p%64)]
def bT(s:Str):Nat:=if 240<=bI (s.getD 0 0)then 4 else if 224<=bI (s.getD 0 0)then 3 else if 192<=bI (s.getD 0 0)then 2 else 1
def gp(s:Str):Int:=if 240<=bI (s.getD 0 0)then bI (s.getD 0 0)-240 else if 224<=bI (s.getD 0 0)then bI (s.getD 0 0)-224 else if 192<=bI (s.getD 0 0)then bI (s.getD 0 0)-192 else bI (s.getD 0 0)
def aO(s:Str):Nat->Int
 |0=>gp s
 |1=>gp s
 |k+2=>aO s (k+1) *64+bI (s.getD (k+1) 0)-128
def ie(s:Str):Int×Int:=
 if s=[]then(0,0)else if s.length<bT s then(0,0)
 else if fb (aO s (bT s))=true/\cZ (aO s (bT s))=s.take (bT s)then(aO s (bT s),bT s)else(0,0)
end Go.Pd
end
section
namespace Go.Pd
open Go.AL
theorem fo{n:Int}{b:UInt8}(h0:0<=n)(h1:n<=255):jM n=b↔n=bI b:=by
 unfold jM bI;constructor
 ·intro e;rw[<-e,UInt8.toNat_ofNat'];have:n.toNat%2 ^ 8=n.toNat:=Nat.mod_eq_of_lt (by omega);rw[this];omega
 ·intro e;rw[e,Mv];exact UInt8.ofNat_toNat
theorem Ha{p:Int}(h:0<=p)(a:UInt8):cZ p=[a]↔p<128/\p=bI a:=by
 unfold cZ;split
 ·simp only[Nx,N4];rw[fo h (by omega)];omega
 ·refine⟨fun e=>?_,fun e=>by omega⟩;revert e;split<;>(try split)<;>simp
theorem Hb{p:Int}(h:0<=p)(a b:UInt8):cZ p=[a,b]↔128<=p/\p<2048/\192+p/64=bI a/\128+p%64=bI b:=by
 unfold cZ;split
 ·refine⟨fun e=>?_,fun e=>by omega⟩;simp at e
 split
 ·simp only[Nx,N4];rw[fo (by omega) (by omega),fo (by omega) (by omega)];omega
 ·refine⟨fun e=>?_,fun e=>by omega⟩;revert e;split<;>simp
theorem Hc{p:Int}(h:0<=p)(a b c:UInt8):cZ p=[a,b,c]↔2048<=p/\p<65536/\224+p/4096=bI a/\128+p/64%64=bI b/\128+p%64=bI c:=by
 unfold cZ;split
 ·refine⟨fun e=>?_,fun e=>by omega⟩;simp at e
 split
 ·refine⟨fun e=>?_,fun e=>by omega⟩;simp at e
 split
 ·simp only[Nx,N4];rw[fo (by omega) (by omega),fo (by omega) (by omega),fo (by omega) (by omega)];omega
 ·refine⟨fun e=>?_,fun e=>by omega⟩;simp at e
theorem Hd{p:Int}(h:0<=p)(hp:p<=1114111)(a b c d:UInt8):cZ p=[a,b,c,d]↔65536<=p/\240+p/262144=bI a/\128+p/4096%64=bI b/\128+p/64%64=bI c/\128+p%64=bI d:=by
 unfold cZ;split
 ·refine⟨fun e=>?_,fun e=>by omega⟩;simp at e
 split
 ·refine⟨fun e=>?_,fun e=>by omega⟩;simp at e
 split
 ·refine⟨fun e=>?_,fun e=>by omega⟩;simp at e
 ·simp only[Nx,N4];rw[fo (by omega) (by omega),fo (by omega) (by omega),fo (by omega) (by omega),fo (by omega) (by omega)];omega
theorem ku(p:Int):fb p=true↔0<=p/\p<=1114111/\(p<55296∨57343<p):=by unfold fb;simp only[Mo,Ns,MD,and_assoc]
theorem yh(s:Str):(ie s).2=(iM s:Int):=by
 match s with
 |[]=>rfl
 |b::r=>
  rw[Gw];have hb:=OF b;have e0:bI ((b::r).getD 0 0)=(b.toNat:Int):=rfl;unfold ie;rw[Mp (List.cons_ne_nil _ _)];by_cases c4:240<=(b.toNat:Int)
  ·have hL:bT (b::r)=4:=by unfold bT;rw[e0,Mu c4]
   rw[hL]
   match r with
   |[]=>rw[Mu (by simp)];unfold lq;simp only[N9];(repeat' split)<;>first|rfl|omega
   |[c1]=>rw[Mu (by simp)];unfold lq;simp only[ML,N9];(repeat' split)<;>first|rfl|omega
   |[c1,c2]=>rw[Mu (by simp)];unfold lq;simp only[ML,N9];(repeat' split)<;>first|rfl|omega
   |c1::c2::c3::r=>
    have h1:=OF c1;have h2:=OF c2;have h3:=OF c3
    have hf:aO (b::c1::c2::c3::r) 4=((((b.toNat:Int)-240) *64+c1.toNat-128) *64+c2.toNat-128) *64+c3.toNat-128:=by
     have:gp (b::c1::c2::c3::r)=(b.toNat:Int)-240:=by unfold gp;rw[show bI ((b::c1::c2::c3::r).getD 0 0)=(b.toNat:Int)from rfl,Mu c4]
     unfold aO aO aO aO;rw[this];rfl
    rw[Mp (by simp),hf];have ht:(b::c1::c2::c3::r).take 4=[b,c1,c2,c3]:=rfl;rw[ht];generalize hp:((((b.toNat:Int)-240) *64+c1.toNat-128) *64+c2.toNat-128) *64+c3.toNat-128=p;have key:(fb p=true/\cZ p=[b,c1,c2,c3])↔(0<=p/\p<=1114111/\(p<55296∨57343<p))/\(65536<=p/\240+p/262144=(b.toNat:Int)/\128+p/4096%64=(c1.toNat:Int)/\128+p/64%64=(c2.toNat:Int)/\128+p%64=(c3.toNat:Int)):=by rw[ku];exact and_congr_right fun e=>Hd e.1 e.2.1 _ _ _ _
    unfold lq;simp only[ML,Pw,P0];rw[show p/4096=p/64/64 by omega,show p/262144=p/64/64/64 by omega]at key;generalize hu:p/64=u at key;generalize hv:u/64=v at key;generalize hw:v/64=w at key;split
    ·next h=>
     have h:=key.1 h;have x0:b.toNat/8=30/\c1.toNat/64=2/\c2.toNat/64=2/\c3.toNat/64=2:=by omega
     have x1:b.toNat%8 *262144+c1.toNat%64 *4096+c2.toNat%64 *64+c3.toNat%64=p.toNat:=by omega
     rw[x1,Mp (by omega),Mp (by omega),Mp (by omega),Mu ⟨x0.1,⟨by omega,x0.2.1⟩,⟨by omega,x0.2.2.1⟩,by omega,x0.2.2.2⟩,Mu (by omega)]
    ·next h=>
     by_cases x0:b.toNat/8=30/\c1.toNat/64=2/\c2.toNat/64=2/\c3.toNat/64=2
     ·have x1:((b.toNat%8 *262144+c1.toNat%64 *4096+c2.toNat%64 *64+c3.toNat%64:Nat):Int)=p:=by omega
      have x2:¬((b.toNat%8 *262144+c1.toNat%64 *4096+c2.toNat%64 *64+c3.toNat%64)≥65536/\((b.toNat%8 *262144+c1.toNat%64 *4096+c2.toNat%64 *64+c3.toNat%64)<55296∨57344<=(b.toNat%8 *262144+c1.toNat%64 *4096+c2.toNat%64 *64+c3.toNat%64)/\(b.toNat%8 *262144+c1.toNat%64 *4096+c2.toNat%64 *64+c3.toNat%64)<=1114111)):=fun e=>h (key.2 ⟨by omega,by omega⟩);rw[Mp (by omega),Mp (by omega),Mp (by omega),Mu ⟨x0.1,⟨by omega,x0.2.1⟩,⟨by omega,x0.2.2.1⟩,by omega,x0.2.2.2⟩,Mp x2];rfl
     ·rw[Mp (by omega),Mp (by omega),Mp (by omega),Mp (fun e=>x0 ⟨e.1,e.2.1.2,e.2.2.1.2,e.2.2.2.2⟩)];rfl
  by_cases c3:224<=(b.toNat:Int)
  ·have hL:bT (b::r)=3:=by unfold bT;rw[e0,Mp c4,Mu c3]
   rw[hL]
   match r with
   |[]=>rw[Mu (by simp)];unfold lq;simp only[N9];(repeat' split)<;>first|rfl|omega
   |[c1]=>rw[Mu (by simp)];unfold lq;simp only[ML,N9];(repeat' split)<;>first|rfl|omega
   |c1::c2::r=>
    have h1:=OF c1;have h2:=OF c2
    have hf:aO (b::c1::c2::r) 3=(((b.toNat:Int)-224) *64+c1.toNat-128) *64+c2.toNat-128:=by
     have:gp (b::c1::c2::r)=(b.toNat:Int)-224:=by unfold gp;rw[show bI ((b::c1::c2::r).getD 0 0)=(b.toNat:Int)from rfl,Mp c4,Mu c3]
     unfold aO aO aO;rw[this];rfl
    rw[Mp (by simp),hf];have ht:(b::c1::c2::r).take 3=[b,c1,c2]:=rfl;rw[ht];generalize hp:(((b.toNat:Int)-224) *64+c1.toNat-128) *64+c2.toNat-128=p;have key:(fb p=true/\cZ p=[b,c1,c2])↔(0<=p/\p<=1114111/\(p<55296∨57343<p))/\(2048<=p/\p<65536/\224+p/4096=(b.toNat:Int)/\128+p/64%64=(c1.toNat:Int)/\128+p%64=(c2.toNat:Int)):=by rw[ku];exact and_congr_right fun e=>Hc e.1 _ _ _
    unfold lq;simp only[ML,Pw,P0];rw[show p/4096=p/64/64 by omega]at key;generalize hu:p/64=u at key;generalize hv:u/64=v at key;split
    ·next h=>
     have h:=key.1 h;have x0:b.toNat/16=14/\c1.toNat/64=2/\c2.toNat/64=2:=by omega
     have x1:b.toNat%16 *4096+c1.toNat%64 *64+c2.toNat%64=p.toNat:=by omega
     rw[x1,Mp (by omega),Mp (by omega),Mu ⟨x0.1,⟨by omega,x0.2.1⟩,by omega,x0.2.2⟩,Mu (by omega)]
    ·next h=>
     by_cases x0:b.toNat/16=14/\c1.toNat/64=2/\c2.toNat/64=2
     ·have x1:((b.toNat%16 *4096+c1.toNat%64 *64+c2.toNat%64:Nat):Int)=p:=by omega
      have x2:¬((b.toNat%16 *4096+c1.toNat%64 *64+c2.toNat%64)≥2048/\((b.toNat%16 *4096+c1.toNat%64 *64+c2.toNat%64)<55296∨57344<=(b.toNat%16 *4096+c1.toNat%64 *64+c2.toNat%64)/\(b.toNat%16 *4096+c1.toNat%64 *64+c2.toNat%64)<=1114111)):=fun e=>h (key.2 ⟨by omega,by omega⟩);rw[Mp (by omega),Mp (by omega),Mu ⟨x0.1,⟨by omega,x0.2.1⟩,by omega,x0.2.2⟩,Mp x2];rfl
     ·rw[Mp (by omega),Mp (by omega),Mp (fun e=>x0 ⟨e.1,e.2.1.2,e.2.2.2⟩),Mp (by omega)];rfl
  by_cases c2:192<=(b.toNat:Int)
  ·have hL:bT (b::r)=2:=by unfold bT;rw[e0,Mp c4,Mp c3,Mu c2]
   rw[hL]
   match r with
   |[]=>rw[Mu (by simp)];unfold lq;simp only[N9];(repeat' split)<;>first|rfl|omega
   |c1::r=>
    have h1:=OF c1
    have hf:aO (b::c1::r) 2=((b.toNat:Int)-192) *64+c1.toNat-128:=by
     have:gp (b::c1::r)=(b.toNat:Int)-192:=by unfold gp;rw[show bI ((b::c1::r).getD 0 0)=(b.toNat:Int)from rfl,Mp c4,Mp c3,Mu c2]
     unfold aO aO;rw[this];rfl
    rw[Mp (by simp),hf];have ht:(b::c1::r).take 2=[b,c1]:=rfl;rw[ht];generalize hp:((b.toNat:Int)-192) *64+c1.toNat-128=p;have key:(fb p=true/\cZ p=[b,c1])↔(0<=p/\p<=1114111/\(p<55296∨57343<p))/\(128<=p/\p<2048/\192+p/64=(b.toNat:Int)/\128+p%64=(c1.toNat:Int)):=by rw[ku];exact and_congr_right fun e=>Hb e.1 _ _
    unfold lq;simp only[ML,Pw,P0];generalize hu:p/64=u at key;split
    ·next h=>
     have h:=key.1 h;have x0:b.toNat/32=6/\c1.toNat/64=2:=by omega
     have x1:b.toNat%32 *64+c1.toNat%64=p.toNat:=by omega
     rw[x1,Mp (by omega),Mu ⟨x0.1,by omega,x0.2⟩,Mu (by omega)]
    ·next h=>
     by_cases x0:b.toNat/32=6/\c1.toNat/64=2
     ·have x1:((b.toNat%32 *64+c1.toNat%64:Nat):Int)=p:=by omega
      generalize b.toNat%32 *64+c1.toNat%64=q at x1⊢;have x2:¬(q≥128):=fun e=>h (key.2 ⟨by omega,by omega⟩);rw[Mp (by omega),Mu ⟨x0.1,by omega,x0.2⟩,Mp x2];rfl
     ·rw[Mp (by omega),Mp (fun e=>x0 ⟨e.1,e.2.2⟩),Mp (by omega),Mp (by omega)];rfl
  ·have hL:bT (b::r)=1:=by unfold bT;rw[e0,Mp c4,Mp c3,Mp c2]
   rw[hL,Mp (by simp)];have hf:aO (b::r) 1=(b.toNat:Int):=by unfold aO gp;rw[e0,Mp c4,Mp c3,Mp c2]
   rw[hf];have ht:(b::r).take 1=[b]:=rfl;rw[ht]
   have key:(fb (b.toNat:Int)=true/\cZ (b.toNat:Int)=[b])↔(b.toNat:Int)<128:=by
    rw[ku,Ha (by omega)];constructor
    ·exact fun e=>e.2.1
    ·exact fun e=>⟨by omega,e,rfl⟩
   by_cases h:b.toNat<128
   ·rw[Mu (key.2 (by omega))];unfold lq;rw[Mu h]
   ·rw[Mp (fun e=>h (by have:=key.1 e;omega))];unfold lq;rw[Mp h,Mp (by omega),Mp (by omega),Mp (by omega)];rfl
theorem JI(s:Str):iM s<=s.length:=by
 by_cases h:s=[]
 ·subst h;exact Mx _
 by_cases e:iM s=0
 ·omega
 obtain⟨_,h2,_,_,h5⟩:=s8 h;have:=h2 e;omega
theorem Dd{s:Str}{n:Nat}(h:n<=s.length):n+iM (s.drop n)<=s.length:=by have:=JI (s.drop n);rw[O6]at this;omega
end Go.Pd
end
section
namespace Go.Pd
open Go.AL
mutual
def dY:Trm->Int->Int
 |⟨_,_,_,_,_,_,_,ps,_⟩,m=>sizeTL ps 1 m
def sizeTL:List Trm->Int->Int->Int
 |[],n,_=>n
 |p::r,n,m=>if n<=m then sizeTL r (n+dY p (m-n)) m else n
end
mutual
def deepT:Trm->Nat
 |⟨_,_,_,_,_,_,_,ps,_⟩=>maxDT ps+1
def maxDT:List Trm->Nat
 |[]=>0
 |p::r=>max (deepT p) (maxDT r)
end
mutual
theorem sizeT_bd:∀(s:Trm)(m:Int),0<=m->1<=dY s m/\dY s m<=m+1
 |⟨_,_,_,_,_,_,_,ps,_⟩,m,h=>by simp only[dY];exact sizeTL_bd ps 1 m (by omega) (by omega)
theorem sizeTL_bd:∀(l:List Trm)(n m:Int),1<=n->n<=m+1->1<=sizeTL l n m/\sizeTL l n m<=m+1
 |[],n,m,h1,h2=>by simp only[sizeTL];omega
 |p::r,n,m,h1,h2=>by
  simp only[sizeTL];split
  ·have:=sizeT_bd p (m-n) (by omega);exact sizeTL_bd r _ m (by omega) (by omega)
  ·omega
end
mutual
theorem deepT_sz:∀s:Trm,deepT s<=szT s
 |⟨_,_,_,_,_,_,_,ps,_⟩=>by have:=maxDT_sz ps;simp only[deepT,szT];omega
theorem maxDT_sz:∀l:List Trm,maxDT l<=szTL l
 |[]=>Mx _
 |p::r=>by have:=deepT_sz p;have:=maxDT_sz r;simp only[maxDT,szTL];omega
end
mutual
theorem sizeT_eq:∀(s:Trm)(m:Int),0<=m->dY s m=min (szT s:Int) (m+1)
 |⟨_,_,_,_,_,_,_,ps,_⟩,m,h=>by simp only[dY,szT];rw[sizeTL_eq ps 1 m (by omega)];omega
theorem sizeTL_eq:∀(l:List Trm)(n m:Int),n<=m+1->sizeTL l n m=min (n+szTL l) (m+1)
 |[],n,m,h=>by simp only[sizeTL,szTL];omega
 |p::r,n,m,h=>by
  simp only[sizeTL,szTL];have:=dh p;split
  ·rw[sizeT_eq p (m-n) (by omega),sizeTL_eq r _ m (by omega)];omega
  ·omega
end
mutual
theorem countT_size:∀(s:Trm)(m:Int),0<=m->(countT s m).1=min (szT s:Int) (m+1)
 |⟨_,_,_,_,_,_,_,ps,_⟩,m,h=>by simp only[countT,szT];rw[countL_size ps m 1 0 (by omega)];omega
theorem countL_size:∀(l:List Trm)(m n d:Int),n<=m+1->(countL l m n d).1=min (n+szTL l) (m+1)
 |[],m,n,d,h=>by simp only[countL,szTL];omega
 |p::r,m,n,d,h=>by
  simp only[countL,szTL];have:=dh p;split
  ·show n=_;omega
  ·rw[countL_size r m _ _ (by rw[countT_size p (m-n) (by omega)];omega),countT_size p (m-n) (by omega)];omega
end
mutual
theorem countT_deep:∀(s:Trm)(m:Int),(szT s:Int)<=m->(countT s m).2=deepT s
 |⟨_,_,_,_,_,_,_,ps,_⟩,m,h=>by simp only[szT]at h;simp only[countT,deepT];rw[countL_deep ps m 1 0 (by omega) (by omega)];omega
theorem countL_deep:∀(l:List Trm)(m n d:Int),n+szTL l<=m->0<=d->(countL l m n d).2=max d (maxDT l)
 |[],m,n,d,h,h0=>by simp only[countL,maxDT];omega
 |p::r,m,n,d,h,h0=>by
  simp only[szTL]at h;simp only[countL,maxDT];rw[Mp (by omega)];have e1:(countT p (m-n)).1=szT p:=by rw[countT_size p (m-n) (by omega)];omega
  rw[countL_deep r m _ _ (by rw[e1];omega) (by omega),countT_deep p (m-n) (by omega)];omega
end
theorem AI(t:Trm):aZ t=if 4096<dY t 4096 then 3 else if 40<(deepT t:Int)then 91 else if allT ax t=true then 0 else 80:=by
 unfold aZ;rw[countT_size t 4096 (by omega),sizeT_eq t 4096 (by omega)];by_cases h:(4096:Int)<min (szT t:Int) (4096+1)
 ·rw[Mu h,Mu h]
 ·rw[Mp h,Mp h,countT_deep t 4096 (by omega)]
def fc(ns:List Str)(b:Bool):Bool:=ns.all az&&(!b||decide ns.Nodup)
def ib(t:Trm)(n v s p:Int):Bool:=decide ((t.names.length:Int)=n)&&decide ((t.vars.length:Int)=v)&&decide ((t.shapes.length:Int)=s)&&decide ((t.parts.length:Int)=p)
def kx(s:Str):Nat->Nat->List Int->List Int×Flt
 |0,_,acc=>(acc,⟨0,0⟩)
 |f+1,i,acc=>if i<s.length then(if iM (s.drop i)=0 then([],⟨30,i⟩)else kx s f (i+iM (s.drop i)) (acc++[(ie (s.drop i)).1]))else(acc,⟨0,0⟩)
def jq(s:Str):List Int×Flt:=kx s (s.length+1) 0 []
end Go.Pd
end
section
namespace Go.Pd
open Go.AL
theorem sK:∀(f:Nat)(s:Str)(i:Nat)(acc:List Int),s.length-i<f->i<=s.length->((kx s f i acc).2.err=0↔lr s i=none)
 |0,s,i,acc,h,_=>absurd h (Nat.not_lt_zero _)
 |f+1,s,i,acc,h,hi=>by
  rw[kx];by_cases k:i<s.length
  ·rw[Mu k];by_cases b:iM (s.drop i)=0
   ·rw[Mu b,Ea k b];simp
   ·rw[Mp b,Am k b];have:=Dd (s:=s) (n:=i) hi;exact sK f s _ _ (by omega) this
  ·rw[Mp k,E9 (by omega)];simp
theorem sL(s:Str):(jq s).2.err=0↔lk s=none:=by rw[<-Al];exact sK _ s 0 [] (by omega) (ME _)
theorem AJ{s:Str}(h:s.all di=true):decide ((jq s).2.err=0)=jb s:=by
 unfold jb;rw[h,MU]
 cases e:lk s with|none=>rw[Xd ((sL s).2 e)];rfl|some k=>rw[Xf (fun q=>by have:=(sL s).1 q;rw[e]at this;cases this)];rfl
theorem Eu{c:Prop}[Decidable c]{a b:Bool}{P:Prop}(h:(if c then a else b)=true)(f:a=true->P)(g:b=true->P):P:=by
 by_cases k:c
 ·rw[Mu k]at h;exact f h
 ·rw[Mp k]at h;exact g h
theorem sM{t:Trm}(h:jF t=true):eG t.names=true/\t.vars.all az=true:=by
 unfold jF fk at h
 repeat' (refine Eu h (fun h=>?_) (fun h=>?_))
 all_goals simp only[Mo,MD,N7]at h
 all_goals refine⟨?_,?_⟩
 all_goals first
  |exact h.1.2|exact h.1.1.2
  |(have e1:=My (l:=t.vars) (by omega);rw[e1];rfl)
  |(have e1:=My (l:=t.names) (by omega);rw[e1];rfl)
  |exact h.elim
theorem AK{t:Trm}(h:fc t.names true=false):ax t=false:=by rw[O1];intro e;unfold ax at e;rw[Mo]at e;have:=(sM e.2).1;unfold eG at this;unfold fc at h;simp at this h;exact h this.1 this.2
theorem Ev{t:Trm}(h:fc t.vars false=false):ax t=false:=by rw[O1];intro e;unfold ax at e;rw[Mo]at e;have:=(sM e.2).2;unfold fc at h;rw[this]at h;simp at h
def eL(t:Trm):Bool:=allT (fun x=>decide (x.name.length<=2000000)&&decide (x.names.length<=2000000)) t
theorem AM{t x:Trm}(h:eL t=true)(hx:x∈t.parts):eL x=true:=by unfold eL at h⊢;rw[allT_eq,Mo,allTL_all]at h;exact MI.1 h.2 x hx
theorem AN{t:Trm}(h:eL t=true):t.name.length<=2000000/\t.names.length<=2000000:=by unfold eL at h;rw[allT_eq,Mo,Mo,MD,MD]at h;exact h.1
end Go.Pd
end
section
namespace Go.Proofs.YtldkmcedeenlnaaGreatDoor.Join
open Go.AL Go.AL.Seat Go.Pd Go.ChangeShapes Go.WideShapes Go.RowKit Go.Lib Go.Shelf
theorem He{t:Trm}(h:allT (jn 1048576 1048576) t=true):eL t=true:=
 lY (g:=jn 1048576 1048576) (fun x a _=>by
  unfold jn at a;rw[Mo]at a;have a1:=Xo a.1;have a2:=Xo a.2;rw[Mo];exact⟨Xd (by omega),Xd (by omega)⟩) _ t (Mx _) h h
def cmpD(t:Trm)(l:List Bndg):List Chnk×Int:=(if aZ t≠0 then[]else yg (szT t) t l,aZ t)
theorem JJ{t:Trm}{l:List Bndg}(h:allT (jn 1048576 1048576) t=true)(hz:szcT t 500<=500)(hl:l.length<=100):AA (szT t) t l/\(eL t=true/\AG (szT t) t l)/\Jw t l=cmpD t l:=
 let z:=JH xX h hz hl
 ⟨z.1,⟨He h,z.2.1⟩,z.2.2⟩
end Go.Proofs.YtldkmcedeenlnaaGreatDoor.Join
end
noncomputable section
namespace Go.AL
def evN{α:Type}(n:Nat)(k:Nat->α):α:=match n with|0=>k 0|m+1=>k (m+1)
def evI{α:Type}(n:Int)(k:Int->α):α:=match n with|.ofNat m=>evN m fun m=>k (.ofNat m)|.negSucc m=>evN m fun m=>k (.negSucc m)
def evL{α β:Type}:List β->(List β->α)->α
 |[],k=>k []
 |a::r,k=>evL r fun r=>k (a::r)
theorem bL{α:Type}(n:Nat)(k:Nat->α):evN n k=k n:=by cases n<;>rfl
theorem AO{α:Type}(n:Int)(k:Int->α):evI n k=k n:=by cases n<;>(unfold evI;exact bL _ _)
theorem fe{α β:Type}:∀(l:List β)(k:List β->α),evL l k=k l
 |[],_=>rfl
 |a::r,k=>by rw[evL,fe r]
mutual
def evV{α:Type}:AV->(AV->α)->α
 |.int κ n,k=>evI n fun n=>k (.int κ n)
 |.bool true,k=>k (.bool true)
 |.bool false,k=>k (.bool false)
 |.str s,k=>evL s fun s=>k (.str s)
 |.lst τ xs none,k=>evL xs fun xs=>k (.lst τ xs none)
 |.lst τ xs (some i),k=>evL xs fun xs=>k (.lst τ xs (some i))
 |.row τ xs,k=>evL xs fun xs=>k (.row τ xs)
 |.arr i n w,k=>evN n fun n=>k (.arr i n w)
 |.aptr i n w o,k=>evN n fun n=>evN o fun o=>k (.aptr i n w o)
 |.cptr c,k=>evV c fun c=>k (.cptr c)
 |.agg cs,k=>evVs cs fun cs=>k (.agg cs)
 |.tup cs,k=>evVs cs fun cs=>k (.tup cs)
 |.fn f cs,k=>evVs cs fun cs=>k (.fn f cs)
 |.iface t a,k=>evV a fun a=>k (.iface t a)
 |.lstp τ xs i,k=>evL xs fun xs=>k (.lstp τ xs i)
 |.glst s n i,k=>evN s fun s=>evN n fun n=>k (.glst s n i)
 |.gptr i s n w o,k=>evN s fun s=>evN n fun n=>evN w fun w=>evN o fun o=>k (.gptr i s n w o)
 |.undef,k=>k .undef
 |.nils,k=>k .nils
 |.ptr i o,k=>k (.ptr i o)
 |.nilp,k=>k .nilp
 |.st n x,k=>k (.st n x)
 |.map i,k=>k (.map i)
 |.bptr i,k=>k (.bptr i)
 |.nilif,k=>k .nilif
 |.nilm,k=>k .nilm
 |.pt n x,k=>k (.pt n x)
 |.tptr τ n i,k=>k (.tptr τ n i)
def evVs{α:Type}:List AV->(List AV->α)->α
 |[],k=>k []
 |a::r,k=>evV a fun a=>evVs r fun r=>k (a::r)
end
mutual
theorem evV_eq{α:Type}:∀(a:AV)(k:AV->α),evV a k=k a
 |.int κ n,k=>by rw[evV,AO]
 |.bool true,k=>rfl
 |.bool false,k=>rfl
 |.str s,k=>by rw[evV,fe]
 |.lst τ xs none,k=>by rw[evV,fe]
 |.lst τ xs (some i),k=>by rw[evV,fe]
 |.row τ xs,k=>by rw[evV,fe]
 |.arr i n w,k=>by rw[evV,bL]
 |.aptr i n w o,k=>by rw[evV,bL,bL]
 |.cptr c,k=>by rw[evV,evV_eq c]
 |.agg cs,k=>by rw[evV,evVs_eq cs]
 |.tup cs,k=>by rw[evV,evVs_eq cs]
 |.fn f cs,k=>by rw[evV,evVs_eq cs]
 |.iface t a,k=>by rw[evV,evV_eq a]
 |.lstp τ xs i,k=>by rw[evV,fe]
 |.glst _ _ _,k=>by rw[evV,bL,bL]
 |.gptr _ _ _ _ _,k=>by rw[evV,bL,bL,bL,bL]
 |.undef,k=>rfl
 |.nils,k=>rfl
 |.ptr _ _,k=>rfl
 |.nilp,k=>rfl
 |.st _ _,k=>rfl
 |.map _,k=>rfl
 |.bptr _,k=>rfl
 |.nilif,k=>rfl
 |.nilm,k=>rfl
 |.pt _ _,k=>rfl
 |.tptr _ _ _,k=>rfl
theorem evVs_eq{α:Type}:∀(l:List AV)(k:List AV->α),evVs l k=k l
 |[],k=>rfl
 |a::r,k=>by rw[evVs,evV_eq a,evVs_eq r]
end
def evA{α:Type}(a:AV)(k:AV->α):α:=
 match a with
 |.int κ n=>evI n fun n=>k (.int κ n)
 |.bool b=>(match b with|true=>k (.bool true)|false=>k (.bool false))
 |.str s=>evL s fun s=>k (.str s)
 |.lst τ xs o=>evL xs fun xs=>(match o with|none=>k (.lst τ xs none)|some i=>k (.lst τ xs (some i)))
 |.row τ xs=>evL xs fun xs=>k (.row τ xs)
 |.arr i n w=>evN n fun n=>k (.arr i n w)
 |.aptr i n w o=>evN n fun n=>evN o fun o=>k (.aptr i n w o)
 |.ptr i o=>evN o fun o=>k (.ptr i o)
 |.cptr c=>evV c fun c=>k (.cptr c)
 |.agg cs=>evVs cs fun cs=>k (.agg cs)
 |.tup cs=>evVs cs fun cs=>k (.tup cs)
 |.fn f cs=>evVs cs fun cs=>k (.fn f cs)
 |.iface t a=>evV a fun a=>k (.iface t a)
 |.lstp τ xs i=>evL xs fun xs=>k (.lstp τ xs i)
 |.glst s n i=>evN s fun s=>evN n fun n=>k (.glst s n i)
 |.gptr i s n w o=>evN s fun s=>evN n fun n=>evN w fun w=>evN o fun o=>k (.gptr i s n w o)
 |a=>k a
theorem LH{α:Type}(a:AV)(k:AV->α):evA a k=k a:=by
 unfold evA;split
 ·exact AO _ _
 ·split<;>rfl
 ·exact fe _ _
 ·rw[fe];split<;>rfl
 ·exact fe _ _
 ·exact bL _ _
 ·rw[bL,bL]
 ·exact bL _ _
 ·exact evV_eq _ _
 ·exact evVs_eq _ _
 ·exact evVs_eq _ _
 ·exact evVs_eq _ _
 ·exact evV_eq _ _
 ·exact fe _ _
 ·rw[bL,bL]
 ·rw[bL,bL,bL,bL]
 ·rfl
mutual
def evW{α:Type}:AV->(AV->α)->α
 |.int κ n,k=>evI n fun n=>k (.int κ n)
 |.bool true,k=>k (.bool true)
 |.bool false,k=>k (.bool false)
 |.lst τ xs none,k=>k (.lst τ xs none)
 |.lst τ xs (some i),k=>k (.lst τ xs (some i))
 |.row τ xs,k=>evL xs fun xs=>k (.row τ xs)
 |.arr i n w,k=>evN n fun n=>k (.arr i n w)
 |.aptr i n w o,k=>evN n fun n=>evN o fun o=>k (.aptr i n w o)
 |.cptr c,k=>evW c fun c=>k (.cptr c)
 |.agg cs,k=>evWs cs fun cs=>k (.agg cs)
 |.tup cs,k=>evWs cs fun cs=>k (.tup cs)
 |.fn f cs,k=>evWs cs fun cs=>k (.fn f cs)
 |.iface t a,k=>evW a fun a=>k (.iface t a)
 |.lstp τ xs i,k=>evL xs fun xs=>k (.lstp τ xs i)
 |.glst s n i,k=>evN s fun s=>evN n fun n=>k (.glst s n i)
 |.gptr i s n w o,k=>evN s fun s=>evN n fun n=>evN w fun w=>evN o fun o=>k (.gptr i s n w o)
 |.str s,k=>k (.str s)
 |.undef,k=>k .undef
 |.nils,k=>k .nils
 |.ptr i o,k=>evN o fun o=>k (.ptr i o)
 |.nilp,k=>k .nilp
 |.st n x,k=>k (.st n x)
 |.map i,k=>k (.map i)
 |.bptr i,k=>k (.bptr i)
 |.nilif,k=>k .nilif
 |.nilm,k=>k .nilm
 |.pt n x,k=>k (.pt n x)
 |.tptr τ n i,k=>k (.tptr τ n i)
def evWs{α:Type}:List AV->(List AV->α)->α
 |[],k=>k []
 |a::r,k=>evW a fun a=>evWs r fun r=>k (a::r)
end
mutual
theorem evW_eq{α:Type}:∀(a:AV)(k:AV->α),evW a k=k a
 |.int κ n,k=>by rw[evW,AO]
 |.bool true,k=>rfl
 |.bool false,k=>rfl
 |.str s,k=>rfl
 |.lst τ xs none,k=>rfl
 |.lst τ xs (some i),k=>rfl
 |.row τ xs,k=>by rw[evW,fe]
 |.arr i n w,k=>by rw[evW,bL]
 |.aptr i n w o,k=>by rw[evW,bL,bL]
 |.cptr c,k=>by rw[evW,evW_eq c]
 |.agg cs,k=>by rw[evW,evWs_eq cs]
 |.tup cs,k=>by rw[evW,evWs_eq cs]
 |.fn f cs,k=>by rw[evW,evWs_eq cs]
 |.iface t a,k=>by rw[evW,evW_eq a]
 |.lstp τ xs i,k=>by rw[evW,fe]
 |.glst _ _ _,k=>by rw[evW,bL,bL]
 |.gptr _ _ _ _ _,k=>by rw[evW,bL,bL,bL,bL]
 |.undef,k=>rfl
 |.nils,k=>rfl
 |.ptr _ o,k=>by rw[evW,bL]
 |.nilp,k=>rfl
 |.st _ _,k=>rfl
 |.map _,k=>rfl
 |.bptr _,k=>rfl
 |.nilif,k=>rfl
 |.nilm,k=>rfl
 |.pt _ _,k=>rfl
 |.tptr _ _ _,k=>rfl
theorem evWs_eq{α:Type}:∀(l:List AV)(k:List AV->α),evWs l k=k l
 |[],k=>rfl
 |a::r,k=>by rw[evWs,evW_eq a,evWs_eq r]
end
def JK:Op->Bool
 |.load _ _=>true
 |.move _=>true
 |_=>false
def evQ{α:Type}(o:Oper)(a:AV)(k:AV->α):α:=match JK o.op with|true=>evW a k|false=>evA a k
theorem LI{α:Type}(o:Oper)(a:AV)(k:AV->α):evQ o a k=k a:=by
 unfold evQ;split
 ·exact evW_eq _ _
 ·exact LH _ _
def evO{α:Type}:SObj->(SObj->α)->α
 |.box c,k=>evW c fun c=>k (.box c)
 |.tail τ n,k=>evN n fun n=>k (.tail τ n)
 |.map κ τ m,k=>evL m fun m=>k (.map κ τ m)
 |.bld t u l,k=>evL l fun l=>k (.bld t u l)
 |.tailp τ n x,k=>evN n fun n=>k (.tailp τ n x)
 |.grow τ s xs,k=>evN s fun s=>evL xs fun xs=>k (.grow τ s xs)
theorem LJ{α:Type}(o:SObj)(k:SObj->α):evO o k=k o:=by
 cases o with|box c=>exact evW_eq _ _|tail τ n=>unfold evO;exact bL _ _|map κ τ m=>exact fe _ _|bld t u l=>exact fe _ _|tailp τ n x=>unfold evO;exact bL _ _|grow τ s xs=>show evN s (fun s=>evL xs fun xs=>k (.grow τ s xs))=_;rw[bL,fe]
def evB{α:Type}:List (Nat×SObj)->(List (Nat×SObj)->α)->α
 |[],k=>k []
 |(i,o)::r,k=>evO o fun o=>evB r fun r=>k ((i,o)::r)
theorem w9{α:Type}:∀(l:List (Nat×SObj))(k:List (Nat×SObj)->α),evB l k=k l
 |[],k=>rfl
 |(i,o)::r,k=>by rw[evB,LJ,w9 r]
def evS{α:Type}(s:St)(k:St->α):α:=evL s.t fun t=>evB s.b fun b=>k ⟨t,b⟩
theorem Hf{α:Type}(s:St)(k:St->α):evS s k=k s:=by rw[evS,fe,w9]
theorem Ew{ob:Option DP}{q:Prop}(h:okO ob=true)(hq:q):qK ob q:=by
 cases ob with|none=>exact hq|some d=>exact⟨d.h h,hq⟩
def De{α:Sort _}(ops:List Oper)(o:Oper)(T:Nat->AV)(bad:α)(on off:Unit->α):α:=
 match o.guard with
 |none=>on ()
 |some (j,want)=>
  match(nth ops j).bind (·.dst)with
  |none=>bad
  |some d=>
   match T d with
   |.bool true=>if want then on ()else off ()
   |.bool false=>if want then off ()else on ()
   |.tup []=>off ()
   |_=>bad
theorem AP{α:Type}{ops:List Oper}{o:Oper}{T:Nat->AV}{y:α}{on off:Unit->Option α}{on' off':Unit->Prop}(hon:on ()=some y->on' ())(hoff:off ()=some y->off' ())
 (h:De ops o T none on off=some y):De ops o T False on' off':=by
 unfold De at h⊢
 cases hg:o.guard with
 |none=>simp only[hg]at h⊢;exact hon h
 |some p=>
  obtain⟨j,want⟩:=p;simp only[hg]at h⊢
  cases hd:(nth ops j).bind (·.dst)with
  |none=>simp only[hd]at h;cases h
  |some d=>
   simp only[hd]at h⊢;generalize T d=v at h⊢;split at h
   ·split at h
    ·rename_i hw;exact(Mu hw).symm ▸ hon h
    ·rename_i hw;exact(Mp hw).symm ▸ hoff h
   ·split at h
    ·rename_i hw;exact(Mu hw).symm ▸ hoff h
    ·rename_i hw;exact(Mp hw).symm ▸ hon h
   ·exact hoff h
   ·cases h
def gdB(ops:List Oper)(g:Bool)(i:Nat):Bool:=match g with|true=>fW ops i|false=>false
def Hg(ops:List Oper):Bool:=ops.any fun o=>o.guard.isSome
theorem LK(ops:List Oper)(i:Nat):gdB ops (Hg ops) i=fW ops i:=by
 unfold gdB
 cases h:Hg ops with
 |true=>rfl
 |false=>
  show false=fW ops i;symm;unfold Hg at h;rw[List.any_eq_false]at h;unfold fW;rw[List.any_eq_false];intro o ho;have:=h o ho
  cases hg:o.guard with|none=>simp|some x=>rw[hg]at this;exact absurd rfl this
def yi(C:Cfg)(ops:List Oper)(g:Bool):List Oper->Nat->St->List bD->Option (St×List bD)
 |[],_,s,fs=>some (s,fs.reverse)
 |o::r,i,s,fs=>
  De ops o (aK s.t) none
   (fun _=>
    match aA C o (aK s.t) (ak s.b)with
    |none=>none
    |some e=>
     match okO e.ob,bY C o (aK s.t) (ak s.b)with
     |true,none=>
      (match gdB ops g i,e.val with
      |true,.bool b=>(match b with
       |true=>yi C ops g r (i+1) ⟨qJ s.t o.dst (.bool true),ca s.b e.upd⟩ ((aH C o (aK s.t) (ak s.b),e.upd.map (·.1))::fs)
       |false=>yi C ops g r (i+1) ⟨qJ s.t o.dst (.bool false),ca s.b e.upd⟩ ((aH C o (aK s.t) (ak s.b),e.upd.map (·.1))::fs))
      |true,_=>none
      |false,v=>evQ o v fun v=>yi C ops g r (i+1) ⟨qJ s.t o.dst v,ca s.b e.upd⟩ ((aH C o (aK s.t) (ak s.b),e.upd.map (·.1))::fs))
     |_,_=>none)
   (fun _=>yi C ops g r (i+1) ⟨qJ s.t o.dst (.tup []),s.b⟩ (([],[])::fs))
theorem Df{C:Cfg}{ops:List Oper}{draw:Bool}{kp:AV->St->Prop}{k:St->List bD->Prop}{s':St}{fs':List bD}(hk:k s' fs') :
  ∀(l:List Oper)(i:Nat)(s:St)(fs:List bD),yi C ops (Hg ops) l i s fs=some (s',fs')->bM C ops draw kp l i s fs k
 |[],_,s,fs,h=>by simp only[yi,Xs,OL]at h;obtain⟨rfl,rfl⟩:=h;exact hk
 |o::r,i,s,fs,h=>by
  have ih:=Df (C:=C) (ops:=ops) (draw:=draw) (kp:=kp) hk r;rw[yi,LK]at h
  refine AP (on':=fun _=>
   match aA C o (aK s.t) (ak s.b)with
   |none=>False
   |some e=>
    qK e.ob
    (match bY C o (aK s.t) (ak s.b)with
    |none=>
     (match fW ops i,e.val with
     |true,.bool b=>
      sp b (bM C ops draw kp r (i+1) (s.put o.dst {e with val:=.bool true}) ((aH C o (aK s.t) (ak s.b),e.upd.map (·.1))::fs) k)
       (bM C ops draw kp r (i+1) (s.put o.dst {e with val:=.bool false}) ((aH C o (aK s.t) (ak s.b),e.upd.map (·.1))::fs) k)
     |true,_=>False
     |false,_=>bM C ops draw kp r (i+1) (s.put o.dst e) ((aH C o (aK s.t) (ak s.b),e.upd.map (·.1))::fs) k)
    |some (b,pv,u)=>
     (match fW ops i with
     |true=>False
     |false=>sp b (vi C ops draw kp r i s fs (aH C o (aK s.t) (ak s.b),e.upd.map (·.1)) pv u) (bM C ops draw kp r (i+1) (s.put o.dst e) ((aH C o (aK s.t) (ak s.b),e.upd.map (·.1))::fs) k))))
   (off':=fun _=>bM C ops draw kp r (i+1) ⟨qJ s.t o.dst (.tup []),s.b⟩ (([],[])::fs) k) ?_ (fun h=>ih _ _ _ h) h
  intro h;split at h
  ·cases h
  ·rename_i e he;split at h
   ·rename_i ho hp;refine Ew ho ?_
    try simp only[hp]
    split at h
    ·rename_i b hg hv
     try simp only[hg,hv]
     split at h
     ·exact ih _ _ _ h
     ·exact ih _ _ _ h
    ·cases h
    ·rename_i v hg;simp only[LI]at h
     try simp only[hg]
     exact ih _ _ _ h
   ·cases h
def JL(ops:List Oper)(i j:Nat):Bool:=((fa ops).getD j 0).testBit i
def mF:Nat->List bD->List (Nat×bD)
 |_,[]=>[]
 |i,f::r=>match f with|([],[])=>mF (i+1) r|f=>(i,f)::mF (i+1) r
def oW(ops:List Oper):List (Nat×bD)->Bool
 |[]=>true
 | x::r=>r.all (fun p=>JL ops x.1 p.1||dJ x.2 p.2)&&oW ops r
def Dg(ops:List Oper):Bool:=
 ((List.range ops.length).all fun j=>(List.range j).all fun i=>JL ops i j||(match nth ops i,nth ops j with | some x,some y=>gw ops x y | _,_=>false))&&
 (ops.zipIdx.all fun(o,j)=>o.after.all fun e=>!Region.binds .any e||Nat.blt e.on j)
def AQ(ops:List Oper)(fs:List bD):Bool:=Dg ops&&fT fs ops.length&&oW ops (mF 0 fs)
theorem sP{α:Type}:∀{l:List α} {i:Nat},i<l.length->∃x,nth l i=some x
 |a::_,0,_=>⟨a,rfl⟩
 |_::r,i+1,h=>sP (l:=r) (Nat.lt_of_succ_lt_succ h)
theorem uE:∀{fs:List bD} {i0 k:Nat} {f:bD},nth fs k=some f->f≠([],[])->(i0+k,f)∈mF i0 fs
 |g::r,i0,0,f,h,hf=>by
  cases h;unfold mF;split
  ·exact absurd rfl hf
  ·exact N2 ..
 |g::r,i0,k+1,f,h,hf=>by
  have ih:=uE (fs:=r) (i0:=i0+1) (k:=k) h hf;rw[show i0+(k+1)=i0+1+k by omega];unfold mF;split
  ·exact ih
  ·exact MK _ ih
theorem pN{ops:List Oper}:∀{fs:List bD} {i0 a b:Nat} {f g:bD},oW ops (mF i0 fs)=true->a<b->nth fs a=some f->nth fs b=some g->f≠([],[])->g≠([],[])->(JL ops (i0+a) (i0+b)||dJ f g)=true
 |x::r,i0,0,b+1,f,g,h,_,hf,hg,h1,h2=>by
  cases hf;have hm:=uE (fs:=r) (i0:=i0+1) (k:=b) hg h2;unfold mF at h;split at h
  ·exact absurd rfl h1
  ·unfold oW at h;rw[Mo,MI]at h;have:=h.1 _ hm
   rwa [show i0+1+b=i0+(b+1) by omega]at this
 |x::r,i0,a+1,b+1,f,g,h,hab,hf,hg,h1,h2=>by
  have hr:oW ops (mF (i0+1) r)=true:=by
   unfold mF at h;split at h
   ·exact h
   ·unfold oW at h;rw[Mo]at h;exact h.2
  have:=pN (fs:=r) (i0:=i0+1) (a:=a) (b:=b) hr (by omega) hf hg h1 h2
  rwa [show i0+1+a=i0+(a+1) by omega,show i0+1+b=i0+(b+1) by omega]at this
theorem AR(g:bD):dJ ([],[]) g=true:=by unfold dJ qL;simp
theorem yj(f:bD):dJ f ([],[])=true:=by unfold dJ qL;simp
theorem nT{α:Type}:∀{l:List α} {n:Nat},fT l n=true->l.length=n
 |[],0,_=>rfl
 |_::r,n+1,h=>by rw[ML,nT (l:=r) h]
theorem Ex{ops:List Oper}{fs:List bD}(h:AQ ops fs=true):fg ops fs=true:=by
 unfold AQ Dg at h;simp only[Mo,MI,NW]at h;obtain⟨⟨⟨h1,h2⟩,h3⟩,h4⟩:=h;have hl:=nT h3;unfold fg;rw[Mo];refine⟨?_,by rw[MI];intro p hp;have:=h2 p hp;exact(by obtain⟨o,j⟩:=p;simpa using this)⟩;rw[MI];intro j hj;rw[MI];intro i hi;rw[NW]at hj hi;have k:=h1 j hj i hi;rw[Ns]at k⊢;rcases k with k|k
 ·exact .inl k
 obtain⟨x,hx⟩:=sP (l:=ops) (i:=i) (by omega);obtain⟨y,hy⟩:=sP (l:=ops) (i:=j) hj;obtain⟨f,hf⟩:=sP (l:=fs) (i:=i) (by omega);obtain⟨g,hg⟩:=sP (l:=fs) (i:=j) (by omega);rw[hx,hy]at k;rw[hx,hy,hf,hg]
 have q:JL ops i j=true∨dJ f g=true:=by
  by_cases c1:f=([],[])
  ·rw[c1];exact .inr (AR g)
  ·by_cases c2:g=([],[])
   ·rw[c2];exact .inr (yj f)
   ·have:=pN h4 hi hf hg c1 c2;rw[Np,Np,Ns]at this;exact this
 rcases q with q|q
 ·exact .inl q
 ·exact .inr (by rw[Mo];exact⟨k,q⟩)
end Go.AL
end
noncomputable section
namespace Go.AL
variable [Tabs]
def Hh:List (Nat×SObj)->Nat->Nat
 |[],m=>m *1000+998
 |(i,_)::r,m=>Hh r (match Nat.ble m (i/1000)with|true=>i/1000+1|false=>m)
def wa:List Nat->St->Option St
 |[],s=>some s
 |i::r,s=>(match FY i (Hh s.b 100) s with|some s=>wa r s|none=>none)
theorem nU{F:Fr}{a:Act}:∀(l:List Nat) {s s':St} {Ω:Om},Holds F s.abs a Ω->wa l s=some s'->∃Ω',Ω'.w=Ω.w/\Holds F s'.abs a Ω'
 |[],s,s',Ω,h,hr=>by cases hr;exact⟨Ω,rfl,h⟩
 |i::r,s,s',Ω,h,hr=>by
  unfold wa at hr;split at hr
  ·rename_i s1 h1;obtain⟨Ω1,e1,g1⟩:=mN h h1;obtain⟨Ω2,e2,g2⟩:=nU r g1 hr;exact⟨Ω2,e2.trans e1,g2⟩
  ·cases hr
def AT(ops:List Oper)(s:St):Option St:=
 match enter ops s with
 |some s'=>some s'
 |none=>(match wa ((s.b.map (·.1)).filter fun i=>Co (qN ops) (vj ops) i&&!bp i) s with|some s'=>enter ops s'|none=>none)
theorem wb{F:Fr}{ops:List Oper}{s s':St}{a:Act}{Ω:Om}(h:Holds F s.abs a Ω)(he:AT ops s=some s'):∃Ω',Ω'.w=Ω.w/\Holds F s'.abs a Ω':=by
 unfold AT at he;split at he
 ·rename_i s1 h1;cases he;exact kZ h h1
 ·split at he
  ·rename_i s1 h1;obtain⟨Ω1,e1,g1⟩:=nU _ h h1;obtain⟨Ω2,e2,g2⟩:=kZ g1 he;exact⟨Ω2,e2.trans e1,g2⟩
  ·cases he
end Go.AL
end
noncomputable section
namespace Go.AL
def Hi(k:Nat)(s:St):Option St:=
 match ak s.b k with
 |some (.tailp τ n x)=>
  if((s.t.flatMap (fun y=>lensV k y.2)++s.b.flatMap (fun y=>Kv k y.2)).all fun m=>Nat.beq m n)=true then
   some ⟨s.t.map fun y=>(y.1,finV k τ x y.2),(pT s.b k (.tail τ (n+1))).map fun y=>(y.1,Dw k τ x y.2)⟩else none
 |_=>some s
def Dh:List Nat->St->Option St
 |[],s=>some s
 |k::r,s=>(match Hi k s with|some s=>Dh r s|none=>none)
theorem uF{n:Nat}{q:Prop}(hq:q):∀l:List Nat,(l.all fun m=>Nat.beq m n)=true->vl n l q
 |[],_=>hq
 |m::r,h=>by rw[NK,Mo]at h;exact⟨MP h.1,uF hq r h.2⟩
theorem Hj{k:Nat}{s s':St}{Q:St->Prop}(h:Hi k s=some s')(hq:Q s'):zy k s Q:=by
 unfold Hi at h;unfold zy;generalize hb:ak s.b k=b at h⊢
 cases b with
 |none=>cases h;exact hq
 |some o=>
  cases o with
  |tailp τ n x=>
   dsimp only at h⊢;split at h
   ·rename_i ha;cases h;exact uF hq _ ha
   ·cases h
  |_=>cases h;exact hq
theorem yk{Q:St->Prop}{s':St}(hq:Q s'):∀(l:List Nat)(s:St),Dh l s=some s'->qO l s Q
 |[],s,h=>by cases h;exact hq
 |k::r,s,h=>by
  unfold Dh at h;split at h
  ·rename_i s1 h1;exact Hj h1 (yk hq r s1 h)
  ·cases h
def trimM(keep:Nat)(s:St):St:=⟨s.t.filter fun x=>Nat.beq (Nat.land (Nat.shiftRight keep x.1) 1) 1,s.b⟩
def LL(C:Cfg)(keep:Nat)(ops:Array Oper)(draw:Bool)(s:St):Option St:=
 match yi C ops.toList (Hg ops.toList) ops.toList 0 s []with
 |none=>none
 |some (s,fs)=>
  match Dh (qe s.b) s with
  |none=>none
  |some s=>
   match draw with
   |false=>evS (trimM keep s) some
   |true=>(match AQ ops.toList fs with|true=>evS (trimM keep s) some|false=>none)
theorem Holds.trimM[Tabs]{F:Fr}{s:St}{a:Act}{Ω:Om}(h:Holds F s.abs a Ω)(keep:Nat):Holds F (trimM keep s).abs a Ω:=by
 refine⟨fun i=>?_,h.size,h.defers,h.slots,h.dom,h.inj,h.pubok,h.keep,h.frame⟩;have e:(AL.trimM keep s).abs.T i=if Nat.beq (Nat.land (Nat.shiftRight keep i) 1) 1=true then aK s.t i else .undef:=j9 s.t (fun i=>Nat.beq (Nat.land (Nat.shiftRight keep i) 1) 1) i
 rw[e];split
 ·exact h.tmps i
 ·exact .undef _
theorem AU[Tabs]{P:Program}{C:Cfg}{F:Fr}(hm:P.follows .mixedOrders=true)(hT:aQ P C.tbl)(hS:bN P C.spec){keep:Nat}{id:Nat}{ops:Array Oper}{draw:Bool}{s s':St}{a:Act}{Ω:Om}
 (hdst:∀(o:Oper),o∈ops.toList->∀d,o.dst=some d->d<F.n)(h:LL C keep ops draw s=some s')(hh:Holds F s.abs a Ω):(Code.region id ops draw).wp P (QL F fun y t=>y=.normal/\t=s') a Ω.w:=by
 have key:bM C ops.toList draw (fun _ _=>False) ops.toList 0 s [] fun s2 fs=>KZ s2 fun s3=>s'=trimM keep s3/\(draw=true->fg ops.toList fs=true):=by
  unfold LL at h;split at h
  ·cases h
  ·rename_i s1 fs h1;refine Df ?_ _ _ _ _ h1;split at h
   ·cases h
   ·rename_i s2 h2;refine yk ?_ _ _ h2;split at h
    ·rw[Hf]at h;cases h;exact⟨rfl,fun q=>by cases q⟩
    ·split at h
     ·rename_i hi;rw[Hf]at h;cases h;exact⟨rfl,fun _=>Ex hi⟩
     ·cases h
 refine nA hm hT hS hdst key (fun hdr s2 fs hk=>let ⟨s3,h3⟩:=oE _ hk;h3.2 hdr) hh (fun s2 fs a' Ω' hk h'=>
   let ⟨s3,Ω3,g1,g2,g3⟩:=rP h' hk
   ⟨.normal,trimM keep s3,Ω3,rfl,g1,g2.trimM keep,rfl,g3.1.symm⟩)
  (fun pv s2 a' Ω' v hk _ _=>hk.elim)
def Di(f:St->Option (SX×St)):Nat->St->Option (SX×St)
 |0,_=>none
 |n+1,s=>
  match f s with
  |some (.normal,s')=>Di f n s'
  |r=>r
def jN(C:Cfg)(keep:Nat)(pubs:List (Nat×List Nat))(N:Nat):Code->St->Option (SX×St)
 |.skip,s=>some (.normal,s)
 |.seq a b,s=>
  (match jN C keep pubs N a s with
  |some (.normal,s')=>jN C keep pubs N b s'
  |r=>r)
 |.cond c a b,s=>
  (match opd (aK s.t) c with
  |.bool true=>jN C keep pubs N a s
  |.bool false=>jN C keep pubs N b s
  |_=>none)
 |.block id c,s=>
  (match jN C keep pubs N c s with
  |some (.exit j,s')=>if j ==id then some (.normal,s')else some (.exit j,s')
  |r=>r)
 |.exit id,s=>some (.exit id,s)
 |.scope c,s=>jN C keep pubs N c s
 |.label _,s=>some (.normal,s)
 |.ret,s=>some (.ret,s)
 |.region id ops draw,s=>
  (match od (qP pubs id) s with
  |none=>none
  |some s=>
   match AT ops.toList s with
   |none=>none
   |some s=>
    match LL C keep ops draw s with
    |some s=>some (.normal,s)
    |none=>none)
 |.loop c,s=>Di (jN C keep pubs N c) N s
 |_,_=>none
variable [Tabs]
variable {P:Program} {C:Cfg} {F:Fr}
theorem AW(hm:P.follows .mixedOrders=true)(hT:aQ P C.tbl)(hS:bN P C.spec)(keep:Nat)(pubs:List (Nat×List Nat))(N:Nat) :
  ∀(c:Code)(s:St)(x:SX)(s':St)(a:Act)(Ω:Om),jN C keep pubs N c s=some (x,s')->bG F.n c=true->Holds F s.abs a Ω->c.wp P (QL F fun y t=>y=x/\t=s') a Ω.w:=by
 intro c
 induction c with
 |skip=>intro s x s' a Ω h _ hh;cases h;exact wp_skip ⟨.normal,s,Ω,rfl,rfl,hh,rfl,rfl⟩
 |region id ops draw=>
  intro s x s' a Ω h hd hh;unfold jN at h;split at h
  ·cases h
  ·rename_i s0 h0;obtain⟨Ω0,e0,g0⟩:=ke _ hh h0;split at h
   ·cases h
   ·rename_i s1 h1;obtain⟨Ω1,e1,g1⟩:=wb g0 h1;have hdst:∀(o:Oper),o∈ops.toList->∀d,o.dst=some d->d<F.n:=by intro o ho d hod;simp only[bG,MI]at hd;have:=hd o ho;rw[hod]at this;simpa using this
    split at h
    ·rename_i s2 h2;cases h;rw[<-e0,<-e1];exact AU hm hT hS hdst h2 g1
    ·cases h
 |seq x y ihx ihy=>
  intro s z s' a Ω h hd hh;simp only[bG,Mo]at hd;unfold jN at h
  cases h1:jN C keep pubs N x s with
  |none=>rw[h1]at h;cases h
  |some r=>
   obtain⟨e1,s1⟩:=r;rw[h1]at h;refine PG (Ou (ihx s e1 s1 a Ω h1 hd.1 hh) ?_);intro e a' w' hq;obtain⟨e2,s2,Ω',g1,g2,g3,g4,g5⟩:=hq;subst g2 g4 g5
   cases e2 with
   |normal=>cases g1;exact ihy _ z s' a' Ω' h hd.2 g3
   |exit id=>cases g1;cases h;exact⟨.exit id,_,Ω',rfl,rfl,g3,rfl,rfl⟩
   |ret=>cases g1;cases h;exact⟨.ret,_,Ω',rfl,rfl,g3,rfl,rfl⟩
   |pan pv=>obtain⟨v,rfl,hv⟩:=g1;cases h;exact⟨.pan pv,_,Ω',⟨v,rfl,hv⟩,rfl,g3,rfl,rfl⟩
 |cond c x y ihx ihy=>
  intro s z s' a Ω h hd hh;simp only[bG,Mo]at hd;unfold jN at h;have hv:=b8 hh c;split at h
  ·rename_i hb;have hb':opd s.abs.T c=.bool true:=hb;rw[hb']at hv;exact wp_cond hv.bool_inv (ihx _ z s' a Ω h hd.1 hh)
  ·rename_i hb;have hb':opd s.abs.T c=.bool false:=hb;rw[hb']at hv;exact wp_cond hv.bool_inv (ihy _ z s' a Ω h hd.2 hh)
  ·cases h
 |block id c ih=>
  intro s z s' a Ω h hd hh;simp only[bG]at hd;unfold jN at h
  cases h1:jN C keep pubs N c s with
  |none=>rw[h1]at h;cases h
  |some r=>
   obtain⟨e1,s1⟩:=r;rw[h1]at h;refine wp_block (Ou (ih s e1 s1 a Ω h1 hd hh) ?_);intro e a' w' hq;obtain⟨e2,s2,Ω',g1,g2,g3,g4,g5⟩:=hq;subst g2 g4 g5
   cases e2 with
   |normal=>cases g1;cases h;exact⟨.normal,_,Ω',rfl,rfl,g3,rfl,rfl⟩
   |ret=>cases g1;cases h;exact⟨.ret,_,Ω',rfl,rfl,g3,rfl,rfl⟩
   |pan pv=>obtain⟨v,rfl,hv⟩:=g1;cases h;exact⟨.pan pv,_,Ω',⟨v,rfl,hv⟩,rfl,g3,rfl,rfl⟩
   |exit j=>
    cases g1;simp only[Ae,Exit.inBlock];by_cases hj:j=id
    ·subst hj;simp only[OU,Nu]at h;cases h;simp only[Nu];exact⟨.normal,_,Ω',rfl,rfl,g3,rfl,rfl⟩
    ·simp only[Nd,hj,N1]at h;cases h;rw[Mp hj];exact⟨.exit j,_,Ω',rfl,rfl,g3,rfl,rfl⟩
 |loop c ih=>
  intro s z s' a Ω h hd hh;simp only[bG]at hd;unfold jN at h;refine wp_loop_rounds N ?_
  have key:∀(n:Nat)(s:St)(a:Act)(Ω:Om),Di (jN C keep pubs N c) n s=some (z,s')->Holds F s.abs a Ω->Code.rounds P c (QL F fun y t=>y=z/\t=s') n a Ω.w:=by
   intro n
   induction n with
   |zero=>intro s a Ω h _;cases h
   |succ n ihn=>
    intro s a Ω h hh;rw[rounds_succ];unfold Di at h
    cases h1:jN C keep pubs N c s with
    |none=>rw[h1]at h;cases h
    |some r=>
     obtain⟨e1,s1⟩:=r;rw[h1]at h;refine Ou (ih s e1 s1 a Ω h1 hd hh) ?_;intro e a' w' hq;obtain⟨e2,s2,Ω',g1,g2,g3,g4,g5⟩:=hq;subst g2 g4 g5
     cases e2 with
     |normal=>cases g1;exact ihn _ a' Ω' h g3
     |exit id=>cases g1;cases h;exact⟨.exit id,_,Ω',rfl,rfl,g3,rfl,rfl⟩
     |ret=>cases g1;cases h;exact⟨.ret,_,Ω',rfl,rfl,g3,rfl,rfl⟩
     |pan pv=>obtain⟨v,rfl,hv⟩:=g1;cases h;exact⟨.pan pv,_,Ω',⟨v,rfl,hv⟩,rfl,g3,rfl,rfl⟩
  exact key N s a Ω h hh
 |exit id=>intro s x s' a Ω h _ hh;cases h;exact wp_exit ⟨.exit id,s,Ω,rfl,rfl,hh,rfl,rfl⟩
 |ret=>intro s x s' a Ω h _ hh;cases h;exact wp_ret ⟨.ret,s,Ω,rfl,rfl,hh,rfl,rfl⟩
 |rangeFunc g ps x y _ _=>intro s z s' a Ω h;cases h
 |scope c ih=>
  intro s z s' a Ω h hd hh;simp only[bG]at hd;unfold jN at h;refine wp_scope_straight (Ou (ih s z s' a Ω h hd hh) ?_);intro e a' w' hq;obtain⟨e2,s2,Ω',h1,h2,h3,h4⟩:=hq
  cases e2 with
  |normal=>cases h1;exact⟨.normal,_,Ω',rfl,h2,h3,h4⟩
  |exit id=>cases h1;exact⟨.exit id,_,Ω',rfl,h2,h3,h4⟩
  |ret=>cases h1;exact⟨.ret,_,Ω',rfl,h2,h3,h4⟩
  |pan pv=>obtain⟨v,rfl,hv⟩:=h1;exact⟨.pan pv,_,Ω',⟨v,rfl,hv⟩,h2,h3,h4⟩
 |label l=>intro s x s' a Ω h _ hh;cases h;exact wp_label ⟨.normal,s,Ω,rfl,rfl,hh,rfl,rfl⟩
 |goto l=>intro s z s' a Ω h;cases h
 |refuse why=>intro s z s' a Ω h;cases h
end Go.AL
end
noncomputable section
namespace Go.AL
variable [Tabs]
def LM:AV->Bool
 |.ptr k 0=>bp k
 |_=>false
def ptrIn(ks:List Nat):AV->Bool
 |.ptr k _=>ks.contains k
 |_=>false
def JM(ks:List Nat)(t:List (Nat×AV)):List (Nat×AV):=t.map fun x=>(x.1,if ptrIn ks x.2 then x.2 else .undef)
structure RC where
 r0:Code
 rest:Code
 crest:Code
 t5:Nat
 caps:List Operand
 t6:Nat
 t3:Nat
def LN(g:Nat)(c cc:Code):Option RC:=
 match c,cc with
 |.seq r0 (.seq (.region _ o1 false) rest),.seq (.region _ o2 false) crest=>
  match o1.toList,o2.toList with
  |[⟨some t5,.makeFunc (.func g') fst caps,_,_,_,none⟩,⟨none,.defer ⟨.value (.tmp t5'),asx,_⟩,_,_,_,none⟩],
   [⟨some t6,.call ⟨.builtin .recover,as2,_⟩,_,_,_,none⟩,⟨some t3,.assign (.tmp t6'),_,_,_,none⟩]=>
   if Nat.beq g' g&&Nat.beq t5' t5&&Nat.beq t6' t6&&fst.isEmpty&&asx.isEmpty&&as2.isEmpty then some ⟨r0,rest,crest,t5,caps.toList,t6,t3⟩else none
  |_,_=>none
 |_,_=>none
def Hk(C:Cfg)(rs:List ResultVar)(L:List dw)(s1:St)(S1:List (Nat×SObj))(S:List (Nat×SObj))(A:Ans)(t2:List (Nat×AV))(s3:St):Prop:=
 match bf (aJ s3.b)&&(aJ S1).all (fun k=>(aJ s3.b).contains k)with
 |true=>
  match kC C.tbl ⟨JM (aJ S1) t2,s3.b⟩ rs with
  |some l=>
   (match kA (ak s1.b) L 998 (ik S1 s3.b),mapVs (pa L 998) (ij L 998) (ij L 998) l with
   |some u',some l'=>fh ⟨[],ca s1.b u'⟩ fun s4=>tX (some l') s4 A.val (ca S A.upd)
   |_,_=>False)
  |none=>False
 |false=>False
def ym(C:Cfg)(annC:An)(clo:Func)(R:RC)(caps:List AV)(v:AV)(s2:St)(fin:St->Prop):Prop:=
 iY (List.range clo.ntmps) fun keep=>fh ⟨gq (da 0 caps) R.t3 v,s2.b⟩ fun s=>swp C keep annC R.crest s fun
  |.exit _,_=>False
  |.pan _,_=>False
  |_,s3=>fin s3
def fwpR(C:Cfg)(ann annC:An)(fn:Func)(g:Nat)(clo:Func)(args:List AV)(S:List (Nat×SObj))(A:Ans):Prop:=
 match fn.body,clo.body,A.pan with
 |some c,some cc,none=>
  match LN g c cc with
  |none=>False
  |some R=>
   match bG fn.ntmps c&&bG clo.ntmps cc&&Nat.blt R.t5 fn.ntmps&&mq args fn.ntmps&&(aJ S).all bp&&clo.results.isEmpty&&mq R.caps clo.ntmps&&mq R.caps R.t6 with
   |false=>False
   |true=>iY ((List.range fn.ntmps)) fun keep=>fh ⟨da 0 args,S⟩ fun i=>swp C keep ann R.r0 i fun
    |.normal,s1=>
     (match(aJ s1.b).map (fun i=>(i,(none:Option (Nat×Nat))))with
     |L=>
      (match bf (L.map (·.1))&&Nat.ble L.length 100,mapVs (toP L) (toI L) (toI L) ((List.range fn.ntmps).map (aK s1.t)),mapVs (toP L) (toI L) (toI L) (R.caps.map (opd (aK s1.t))),nh (ak s1.b) L L 900 with
      |true,some as1,some caps,some S1=>
       (match caps.all LM with
       |true=>fh ⟨gq (da 0 as1) R.t5 .undef,S1⟩ fun i=>swp C keep ann R.rest i fun
        |.exit _,_=>False
        |.pan v,s2=>ym C annC clo R caps v s2 (Hk C fn.results.toList L s1 S1 S A s2.t)
        |_,s2=>ym C annC clo R caps .nilif s2 (Hk C fn.results.toList L s1 S1 S A s2.t)
       |false=>False)
      |_,_,_,_=>False))
    |_,_=>False
 |_,_,_=>False
theorem oX:∀(u S:List (Nat×SObj))(i:Nat),bf (u.map (·.1))=true->ak (ca S u) i=(ak u i).or (ak S i)
 |[],S,i,_=>by simp[ca,aL,aI]
 |(j,o)::r,S,i,h=>by
  simp only[MT,bf,Mo,MO]at h;simp only[ca];rw[oX r _ i h.2,iA];simp only[aL,aI];by_cases e:j=i
  ·subst e
   have:ak r j=none:=by
    cases hb:ak r j with|none=>rfl|some o'=>have:=cd r j o' hb;have h1:=h.1;simp only[N8,N6,MV,not_exists,not_and]at h1;exact absurd rfl (h1 _ this)
   simp[this]
  ·simp[e]
section
variable {P:Program} {C:Cfg}
theorem V.pinned{e0 e:Nat->Option CObj}{w0 w:World}{p0 p:Nat->Nat->Prop}(hk:∀id c,e0 id=some c->∃c',e id=some c'/\CLe c c'){a:AV}{v:Value}(ha:LM a=true)(h:V ⟨e0,w0,p0⟩ a v):V ⟨e,w,p⟩ a v:=by
 cases h with
 |ptr i o b q len he=>obtain⟨c',h1,h2⟩:=hk i _ he;have:=h2.box;subst this;exact .ptr i o b q len h1
 |_=>simp[LM]at ha
theorem Holds.retmp'{F:Fr}{s:AS}{a a':Act}{Ω:Om}(h:Holds F s a Ω){n:Nat}{ds:List Deferred}{T:Nat->AV}(hT:∀i,V Ω (T i) (a'.tmps.getD i undef))(hs:a'.tmps.size=n)(hd:a'.defers=ds) :
  Holds ⟨F.w0,F.pub0,n,F.e0,F.dom0,ds,F.tab0⟩ ⟨T,s.B⟩ a' Ω:=
 ⟨hT,hs,hd,h.slots,h.dom,h.inj,h.pubok,h.keep,⟨h.frame.os,h.frame.tape,h.frame.output,h.frame.size,h.frame.block,h.frame.cell,h.frame.kind,h.frame.pub,h.frame.old,h.frame.pcell⟩⟩
inductive Rcv:FrameMode->AV->Om->Value->FrameMode->Prop
 |ret (Ω:Om):Rcv .returning .nilif Ω .nilIface .returning
 |pan (Ω:Om) (a:AV) (v:Value):V Ω a v->Rcv (.panicking [{v,recovered:=false}]) a Ω v (.panicking [{v,recovered:=true}])
structure RCcode(g:Nat)(R:RC)(c cc:Code):Prop where
 code:∃i1 i2 ty1 ps1 af1 ty2 ps2 af2 ts2 ty3 ps3 af3 ts3 ty4 ps4 af4,
  c=.seq R.r0 (.seq (.region i1 #[⟨some R.t5,.makeFunc (.func g) #[] R.caps.toArray,ty1,ps1,af1,none⟩,⟨none,.defer ⟨.value (.tmp R.t5),#[],ts2⟩,ty2,ps2,af2,none⟩] false) R.rest)/\
  cc=.seq (.region i2 #[⟨some R.t6,.call ⟨.builtin .recover,#[],ts3⟩,ty3,ps3,af3,none⟩,⟨some R.t3,.assign (.tmp R.t6),ty4,ps4,af4,none⟩] false) R.crest
theorem Hl{g:Nat}{c cc:Code}{R:RC}(h:LN g c cc=some R):RCcode g R c cc:=by
 unfold LN at h;split at h
 ·rename_i r0 i1 o1 rest i2 o2 crest;split at h
  ·rename_i h1 h2;split at h
   ·rename_i hc;simp only[Mo,Nat.beq_eq,Array.isEmpty_iff]at hc;obtain⟨⟨⟨⟨⟨rfl,rfl⟩,rfl⟩,rfl⟩,rfl⟩,rfl⟩:=hc;simp only[Xs]at h;subst h;have e1:=NT List.toArray h1;have e2:=NT List.toArray h2;simp only[NX]at e1 e2;subst e1 e2;exact⟨_,_,_,_,_,_,_,_,_,_,_,_,_,_,_,_,rfl,rfl⟩
   ·cases h
  ·cases h
 ·cases h
theorem pO{ts:Array Nat}{d:Option Nat}{ty:Nat}{ps:String}{af:Array Edge}{ρ:Operand->Value}{w:World} :
  (execOp ρ ⟨d,.call ⟨.builtin .recover,#[],ts⟩,ty,ps,af,none⟩).run P w=.ok .recover w:=by
 simp[execOp,resolve,invoke,builtin]
theorem AX(hm:P.follows .mixedOrders=true)(hT:aQ P C.tbl)(hS:bN P C.spec){g:Nat}{clo:Func}{c cc:Code}{R:RC}(hR:RCcode g R c cc)(hg:P.funcs[g]?=some clo)(hb:clo.body=some cc)
 (hd:bG clo.ntmps cc=true)(hres:clo.results=#[]){caps:List AV}(hcl:caps.length<=clo.ntmps)(hc6:caps.length<=R.t6){F:Fr}{s2:St}{a2:Act}{Ω2:Om}(h:Holds F s2.abs a2 Ω2){vs:List Value}(hv:VL Ω2 caps vs)
 {u u':FrameMode}{av:AV}{v:Value}(hrc:Rcv u av Ω2 v u'){annC:An}{fin:St->Prop}(hc:ym C annC clo R caps av s2 fin) :
  CallsD P g vs.toArray u Ω2.w fun en u2 w'=>u2=u'/\en=.returned (.tuple #[])/\∃s3 Ω3 a3 T,Ω3.w=w'/\fin s3/\Holds ⟨F.w0,F.pub0,clo.ntmps,F.e0,F.dom0,[],F.tab0⟩ ⟨T,ak s3.b⟩ a3 Ω3:=by
 obtain⟨i1,i2,ty1,ps1,af1,ty2,ps2,af2,ts2,ty3,ps3,af3,ts3,ty4,ps4,af4,_,rfl⟩:=hR;refine callsD_of_wpS hg hb (fun c₀ cs hu=>?_);apply wpS_seq;apply wpS_region;simp only[bG,Mo,NK,List.all_nil,Bool.and_true,OI]at hd;obtain⟨⟨hd6,hd3⟩,hdc⟩:=hd;have hvs:vs.length<=clo.ntmps:=by rw[<-hv.1];exact hcl
 have hbase:Holds ⟨F.w0,F.pub0,clo.ntmps,F.e0,F.dom0,[],F.tab0⟩ ⟨aK (da 0 caps),ak s2.b⟩ {tmps:=vs.toArray++Array.replicate (clo.ntmps-vs.toArray.size) undef,defers:=[]} Ω2:=
  h.retmp' (fun i=>jC _ hv i) (by simp;omega) rfl
 have key:∃cs',(∃c1,cs'=c1::cs/\c1={c₀ with mode:=u'})/\∀Q':Exit->Act->List Frame->World->Prop,Q' .normal (({tmps:=vs.toArray++Array.replicate (clo.ntmps-vs.toArray.size) undef,defers:=[]}:Act).put (some R.t6) v|>.put (some R.t3) v) cs' Ω2.w->
   wpOpsS P #[⟨some R.t6,.call ⟨.builtin .recover,#[],ts3⟩,ty3,ps3,af3,none⟩,⟨some R.t3,.assign (.tmp R.t6),ty4,ps4,af4,none⟩] Q' [0,1] {tmps:=vs.toArray++Array.replicate (clo.ntmps-vs.toArray.size) undef,defers:=[]} (c₀::cs) Ω2.w:=by
  have two:∀(cs':List Frame)(Q':Exit->Act->List Frame->World->Prop),Q' .normal (({tmps:=vs.toArray++Array.replicate (clo.ntmps-vs.toArray.size) undef,defers:=[]}:Act).put (some R.t6) v|>.put (some R.t3) v) cs' Ω2.w->
    wpOpsS P #[⟨some R.t6,.call ⟨.builtin .recover,#[],ts3⟩,ty3,ps3,af3,none⟩,⟨some R.t3,.assign (.tmp R.t6),ty4,ps4,af4,none⟩] Q' [1] (({tmps:=vs.toArray++Array.replicate (clo.ntmps-vs.toArray.size) undef,defers:=[]}:Act).put (some R.t6) v) cs' Ω2.w:=by
   intro cs' Q' hq;have he:(({tmps:=vs.toArray++Array.replicate (clo.ntmps-vs.toArray.size) undef,defers:=[]}:Act).put (some R.t6) v).eval (.tmp R.t6)=v:=by show(Act.put _ (some R.t6) v).tmps.getD R.t6 undef=v;rw[cu hbase.size hd6,Mu rfl]
   unfold wpOpsS;simp only[Nv,OD,Oa,Region.wanted,Nu];have hr:(execOp (({tmps:=vs.toArray++Array.replicate (clo.ntmps-vs.toArray.size) undef,defers:=[]}:Act).put (some R.t6) v).eval ⟨some R.t3,.assign (.tmp R.t6),ty4,ps4,af4,none⟩).run P Ω2.w=.ok (.value v) Ω2.w:=by show(pure (Next.value (Act.eval _ (.tmp R.t6))):Sem Next).run P Ω2.w=_;rw[he];rfl
   rw[hr];simp only[Oper.upon];exact hq
  cases hrc with|ret=>refine⟨_,⟨c₀,rfl,by cases c₀;simp only at hu;subst hu;rfl⟩,fun Q' hq=>?_⟩;unfold wpOpsS;simp only[Nv,Oa,Region.wanted,Nu];rw[pO];simp only[recoverD,hu];exact two _ Q' hq|pan _ _ hv'=>refine⟨_,⟨_,rfl,rfl⟩,fun Q' hq=>?_⟩;unfold wpOpsS;simp only[Nv,Oa,Region.wanted,Nu];rw[pO];simp only[recoverD,hu];exact two _ Q' hq
 obtain⟨cs',⟨c1,rfl,hc1⟩,key⟩:=key;refine key _ ?_;refine wpS_of_wp ?_;unfold ym at hc;rw[iJ,cU]at hc
 have hav:V Ω2 av v:=by
  cases hrc<;>first|exact .nilif|assumption
 have h1:=(hbase.pure (dst:=some R.t6) (val:=.undef) (v:=v) (.undef v) (fun d e=>by cases e;exact hd6)).pure (dst:=some R.t3) (val:=av) (v:=v) hav (fun d e=>by cases e;exact hd3)
 have h2:Holds ⟨F.w0,F.pub0,clo.ntmps,F.e0,F.dom0,[],F.tab0⟩ (St.abs ⟨gq (da 0 caps) R.t3 av,s2.b⟩) _ Ω2:=h1.weak (s':=St.abs ⟨gq (da 0 caps) R.t3 av,s2.b⟩) (fun i=>by
  simp only[St.abs,eQ,bC];by_cases e3:R.t3=i
  ·right;simp[e3]
  ·by_cases e6:R.t6=i
   ·left;subst e6;rw[Mp e3,gB,Mu (ME _),OT];simp[Ms,Mt hc6]
   ·right;simp[e3,e6]) rfl
 refine Ou (lN hm hT hS _ annC R.crest _ _ _ Ω2 hc hdc h2) ?_;intro e a' w' hq;obtain⟨z,s3,Ω3,q1,q2,q3,q4⟩:=hq;have fin3:fin s3->bodyPostS P clo c₀ cs (fun en u2 w'=>u2=u'/\en=.returned (.tuple #[])/\∃s3 Ω3 a3 T,Ω3.w=w'/\fin s3/\Holds ⟨F.w0,F.pub0,clo.ntmps,F.e0,F.dom0,[],F.tab0⟩ ⟨T,ak s3.b⟩ a3 Ω3) .ret a' (c1::cs) w':=by intro hf;refine⟨q3.defers,u',by rw[hc1],.tuple #[],by simp[results,hres],rfl,rfl,s3,Ω3,a',_,q2,hf,q3⟩
 cases z with
 |normal=>cases q1;exact fin3 q4
 |ret=>cases q1;exact fin3 q4
 |exit id=>exact q4.elim
 |pan v=>exact q4.elim
theorem Ey{w:World}{pub:Nat->Nat->Prop}{e:Nat->Option CObj}{n:Nat}{hl:∀id c,e id=some c->bp id=true}{ds:List Deferred}{ht:iD w pub e}{T:Nat->AV}{t:List (Nat×AV)}{b b':List (Nat×SObj)}{a:Act}{Ω:Om}{l:List AV}{us:List Value}{val:AV}
 (hh:Holds ⟨w,pub,n,e,hl,ds,ht⟩ ⟨T,ak b⟩ a Ω)(k2:VL Ω l us)(hend:tX (some l) ⟨t,b⟩ val b') :
  ∃pub' e',V ⟨e',Ω.w,pub'⟩ val (if h:us.toArray.size=1 then us.toArray[0]else .tuple us.toArray)/\After w pub e (ak b') Ω.w pub' e':=by
 unfold tX at hend;split at hend
 ·rename_i x hres;cases hres;obtain⟨u,rfl⟩:=jD (by rw[<-k2.1];rfl);have h1:=hh.retmp' (T:=aK (da 0 [x])) (a':={tmps:=[u].toArray++Array.replicate 0 undef,defers:=[]}) (n:=1) (ds:=[]) (fun i=>jC 0 k2 i) (by simp) rfl;obtain⟨Ω2,e2,hh2⟩:=dX (s:=⟨[(0,x)],b⟩) h1 (iq hend);refine⟨Ω2.pub,Ω2.e,?_,?_⟩
  ·have:=hh2.tmps 0;rw[<-e2];exact this
  ·rw[<-e2];exact iK hh2
 ·rename_i l' hne hres;cases hres;split at hend
  ·rename_i rs;split at hend
   ·rename_i hln;have hl2:=bQ _ _ hln;have h1:=hh.retmp' (T:=aK (da 0 l)) (a':={tmps:=us.toArray++Array.replicate 0 undef,defers:=[]}) (n:=us.length) (ds:=[]) (fun i=>jC 0 k2 i) (by simp) rfl;obtain⟨Ω2,e2,hh2⟩:=dX (s:=⟨da 0 l,b⟩) h1 (iq hend);have hsz:¬us.toArray.size=1:=by intro h1;obtain⟨x,hx⟩:=jD (l:=l) (by rw[k2.1];simpa using h1);exact hne x hx
    rw[dif_neg hsz];refine⟨Ω2.pub,Ω2.e,?_,?_⟩
    ·refine .tup rs us (by rw[<-k2.1,<-hl2]) (fun j c v hc hv=>?_);have:=hh2.tmps j;simp only[St.abs,gB,ME,Nu,OT,Ms,hc,Nl]at this;have e3:(us.toArray++Array.replicate 0 undef).getD j undef=v:=by simp[MC,hv]
     rw[e3]at this;rw[<-e2];exact this
    ·rw[<-e2];exact iK hh2
   ·exact hend.elim
  ·exact hend.elim
 ·rename_i h;cases h
theorem CLe.to_box{c:CObj}{b o l:Nat}(h:CLe c (.box b o l)):c=.box b o l:=by cases c<;>simp[CLe]at h;obtain⟨rfl,rfl,rfl⟩:=h;rfl
theorem V.ptrIn{F:Fr}{Ω2 Ω3:Om}{ks:List Nat}(h2:∀id c,F.e0 id=some c->∃c',Ω2.e id=some c'/\CLe c c')(h3:∀id c,F.e0 id=some c->∃c',Ω3.e id=some c'/\CLe c c')
 (hk:∀k∈ks,∃c,F.e0 k=some c){a:AV}{v:Value}(h:V Ω2 a v):V Ω3 (if AL.ptrIn ks a=true then a else .undef) v:=by
 split
 ·rename_i hp
  cases h with
  |ptr i o b q len he=>simp only[AL.ptrIn,N8,MD]at hp;obtain⟨c,hc⟩:=hk i hp;obtain⟨c2,e2,l2⟩:=h2 i c hc;rw[he]at e2;cases e2;have:=l2.to_box;subst this;obtain⟨c3,e3,l3⟩:=h3 i _ hc;have:=l3.box;subst this;exact .ptr i o b q len e3
  |_=>simp[AL.ptrIn]at hp
 ·exact .undef v
theorem Ez(hT:aQ P C.tbl){w:World}{pub:Nat->Nat->Prop}{e:Nat->Option CObj}{n n1:Nat}{hl:∀id c,e id=some c->bp id=true}{ht:iD w pub e}{s1:St}{a1:Act}{Ω1:Om}{L:List dw}{ht1:iD Ω1.w Ω1.pub (cR L Ω1.e)}(h3:Holds ⟨w,pub,n,e,hl,[],ht⟩ s1.abs a1 Ω1)
 (hdist:bf (L.map (·.1))=true){S1:List (Nat×SObj)}(hS1:nh (ak s1.b) L L 900=some S1){hl1:∀id c,cR L Ω1.e id=some c->bp id=true}(hk1:∀k∈aJ S1,∃c,cR L Ω1.e k=some c)
 {ds:List Deferred}{s2:St}{a2:Act}{Ω2:Om}(q3:Holds ⟨Ω1.w,Ω1.pub,n,cR L Ω1.e,hl1,ds,ht1⟩ s2.abs a2 Ω2){s3:St}{a3:Act}{Ω3:Om}{T:Nat->AV}(h5:Holds ⟨Ω1.w,Ω1.pub,n1,cR L Ω1.e,hl1,[],ht1⟩ ⟨T,ak s3.b⟩ a3 Ω3)
 {fn:Func}{S:List (Nat×SObj)}{A:Ans}(hpan:A.pan=none)(hf:Hk C fn.results.toList L s1 S1 S A s2.t s3) :
  ∃v,(results fn a2.tmps).run P Ω3.w=.ok v Ω3.w/\∃pub' e',(∀b pv u,A.pan=some (b,pv,u)->b=false)/\V ⟨e',Ω3.w,pub'⟩ A.val v/\After w pub e (ak (ca S A.upd)) Ω3.w pub' e':=by
 unfold Hk at hf;split at hf
 ·rename_i hck;simp only[Mo,MI]at hck;obtain⟨hd3,hin⟩:=hck;split at hf
  ·rename_i l hres;split at hf
   ·rename_i u' l' hu' hl';rw[cU]at hf
    have hR:Holds ⟨Ω1.w,Ω1.pub,n,cR L Ω1.e,hl1,ds,ht1⟩ (St.abs ⟨JM (aJ S1) s2.t,s3.b⟩) a2 Ω3:=by
     have:=h5.retmp' (T:=aK (JM (aJ S1) s2.t)) (a':=a2) (n:=n) (ds:=ds) (fun i=>by
      rw[show aK (JM (aJ S1) s2.t) i=if ptrIn (aJ S1) (aK s2.t i)=true then aK s2.t i else .undef from nz (fun x=>if ptrIn (aJ S1) x=true then x else .undef) (by simp[ptrIn]) s2.t i];exact V.ptrIn (F:=⟨Ω1.w,Ω1.pub,n,cR L Ω1.e,hl1,ds,ht1⟩) q3.keep h5.keep hk1 (q3.tmps i)) q3.size q3.defers
     exact this
    obtain⟨us,k1,k2⟩:=fM hT hR _ _ hres;have hmap:(results fn a2.tmps).run P Ω3.w=.ok (if h:us.toArray.size=1 then us.toArray[0]else .tuple us.toArray) Ω3.w:=by rw[mQ,<-NX (xs:=fn.results),Pb];simp only[MG,Sem.run_map,k1,Mw,MY]
    have hB:ak (ca S1 s3.b)=ak s3.b:=by
     funext i;rw[oX _ _ _ hd3]
     cases h:ak s3.b i with
     |some o=>rfl
     |none=>
      cases h':ak S1 i with|none=>rfl|some o=>have:=hin i (MV.2 ⟨(i,o),cd _ _ _ h',rfl⟩);simp only[N8,MD]at this;exact absurd this (jA _ _ h)
    have hA:After Ω1.w Ω1.pub (cR L Ω1.e) (ak (ca S1 s3.b)) Ω3.w Ω3.pub Ω3.e:=by rw[hB];exact iK (h5.retmp' (T:=T) (a':=a3) (n:=n1) (ds:=[]) h5.tmps h5.size h5.defers)
    obtain⟨Ω',w1,w2,w3⟩:=oq h3 (d:=998) (by omega) hdist hS1 hd3 hu' (val:=.tup l) (val':=.tup l') (by simp only[mapV,hl']) (v:=.tuple us.toArray) (V.of_tup k2) hA;obtain⟨us',e1,k3⟩:=w2.tup_inv;have e2:us=us':=by have:=NT Array.toList (Value.tuple.inj e1);simpa using this
    subst e2;rw[show s1.abs.B=ak s1.b from rfl,<-iH]at w3;obtain⟨pub',e',p1,p2⟩:=Ey (T:=s1.abs.T) (b:=ca s1.b u') (t:=[]) w3 k3 hf;rw[w1]at p1 p2;exact⟨_,hmap,pub',e',(fun b pv u h=>by rw[hpan]at h;cases h),p1,p2⟩
   ·exact hf.elim
  ·exact hf.elim
 ·exact hf.elim
theorem fwpR_sound(hm:P.follows .mixedOrders=true)(hT:aQ P C.tbl)(hS:bN P C.spec){ann annC:An}{f g:Nat}{fn clo:Func}(hf:P.funcs[f]?=some fn)(hg:P.funcs[g]?=some clo)
 (eg:∀args w,(callFunc g args).run P w=.ok (.enter g args) w){args:List AV}{S:List (Nat×SObj)}{A:Ans}(h:fwpR C ann annC fn g clo args S A):aw P f args S A:=by
 intro w pub e vs hp ht hv hs hdom hinj;unfold fwpR at h;split at h
 ·rename_i c cc hb hcb hpan;split at h
  ·exact h.elim
  ·rename_i R hR;split at h
   ·exact h.elim
   ·rename_i hck;simp only[Mo,MI,Array.isEmpty_iff,OI]at hck;obtain⟨⟨⟨⟨⟨⟨⟨hk1,hk2⟩,hk5⟩,hk3⟩,hk4⟩,hres⟩,hcl⟩,hc6⟩:=hck;have hlen:=ez _ _ hk3;have hcl:=ez _ _ hcl;have hc6:=ez _ _ hc6;rw[iJ,cU]at h
    have hlent:∀id c,e id=some c->bp id=true:=by
     intro id c hc
     cases hg:ak S id with
     |none=>rw[hdom id hg]at hc;cases hc
     |some o=>exact hk4 id (MV.2 ⟨(id,o),cd _ _ _ hg,rfl⟩)
    have hRc:=Hl hR;obtain⟨i1,i2,ty1,ps1,af1,ty2,ps2,af2,ts2,ty3,ps3,af3,ts3,ty4,ps4,af4,rfl,_⟩:=id hRc;refine calls_of_wp_defers hf hb ?_;have hh:=ki (n:=fn.ntmps) hp ht hv hlen hs hdom hinj hlent;have hdr:bG fn.ntmps R.r0=true/\bG fn.ntmps R.rest=true:=by simp only[bG,Mo]at hk1;exact⟨hk1.1,hk1.2.2⟩
    refine PG (Ou (lN (F:=⟨w,pub,fn.ntmps,e,hlent,[],ht⟩) hm hT hS _ ann R.r0 _ _ _ _ h hdr.1 hh) ?_);intro en a1 w1 hq;obtain⟨z,s1,Ω1,q1,rfl,h3,h4⟩:=hq
    cases z with
    |exit id=>exact h4.elim
    |ret=>exact h4.elim
    |pan pv=>exact h4.elim
    |normal=>
     cases q1;simp only at h4;generalize hLL:(aJ s1.b).map (fun i=>(i,(none:Option (Nat×Nat))))=L at h4;split at h4
     ·rename_i as1 caps S1 hdl has hcaps hS1;simp only[Mo,Pz]at hdl;obtain⟨hdist,hL100⟩:=hdl;split at h4
      ·rename_i hcp;rw[cU]at h4;obtain⟨k1,k2,k3⟩:=iz L 900 S1 hS1;refine PG (P9 ?_);show wpOps P _ _ [0,1] a1 Ω1.w;refine cm (o:=⟨some R.t5,.makeFunc (.func g) #[] R.caps.toArray,ty1,ps1,af1,none⟩) rfl rfl (ar (v:=.func (.func g) #[] (R.caps.toArray.map a1.eval)) (w':=Ω1.w) (by simp[execOp,Instr.makeFunc]) ?_);have he5:(a1.put (some R.t5) (.func (.func g) #[] (R.caps.toArray.map a1.eval))).eval (.tmp R.t5)=.func (.func g) #[] (R.caps.toArray.map a1.eval):=by show(Act.put a1 (some R.t5) _).tmps.getD R.t5 undef=_;rw[cu h3.size hk5,Mu rfl]
       refine cm (o:=⟨none,.defer ⟨.value (.tmp R.t5),#[],ts2⟩,ty2,ps2,af2,none⟩) rfl rfl ?_;have hrun:(execOp (a1.put (some R.t5) (.func (.func g) #[] (R.caps.toArray.map a1.eval))).eval ⟨none,.defer ⟨.value (.tmp R.t5),#[],ts2⟩,ty2,ps2,af2,none⟩).run P Ω1.w=.ok (.defer {target:=.fn (.func g) (R.caps.toArray.map a1.eval),args:=#[]}) Ω1.w:=by have he5':=he5;simp only[List.map_toArray]at he5';simp[execOp,resolve,he5',Deferred.ofValue]
       unfold Oper.wp;rw[hrun];have hcv:R.caps.toArray.map a1.eval=(R.caps.map a1.eval).toArray:=by simp
       have hdef0:a1.defers=[]:=h3.defers
       have hvl1:VL Ω1 ((List.range fn.ntmps).map (aK s1.t)) a1.tmps.toList:=by
        have hz:a1.tmps.size=fn.ntmps:=h3.size;refine⟨by simp;omega,fun j c v hc hv=>?_⟩;simp only[MS,MM]at hc;obtain⟨q,hq,rfl⟩:=hc;have hqj:q=j:=by have:=Nb.1 hq;obtain⟨_,e⟩:=this;simpa using e.symm
        subst hqj;have:=h3.tmps q;rw[MF]at hv;simp only[MC,hv,Nl]at this;exact this
       have hvc1:VL Ω1 (R.caps.map (opd (aK s1.t))) (R.caps.map a1.eval):=by refine⟨by simp,fun j c v hc hv=>?_⟩;simp only[MS,MM]at hc hv;obtain⟨x,hx,rfl⟩:=hc;obtain⟨y,hy,rfl⟩:=hv;rw[hx]at hy;cases hy;exact b8 h3 x
       have hvl:=hvl1.mapVs (kS L Ω1.e) has;have hvc:=hvc1.mapVs (kS L Ω1.e) hcaps;have hlent1:∀k i r,bj L k=some (i,r)->∃o o',s1.abs.B i=some o/\eZ L r o=some o'/\ak S1 k=some o':=by intro k i r hk;obtain⟨h1,h2⟩:=fK hk;obtain⟨o,o',q1,q2,q3⟩:=k2 _ i r h2;rw[show 900+(k-900)=k by omega]at q3;exact⟨o,o',q1,q2,q3⟩
       have hLs:∀q i r,nth L q=some (i,r)->∃o o',s1.abs.B i=some o/\eZ L r o=some o':=fun q i r hq=>let ⟨o,o',q1,q2,_⟩:=k2 q i r hq;⟨o,o',q1,q2⟩
       have hslots:∀id o,ak S1 id=some o->bk ⟨cR L Ω1.e,Ω1.w,Ω1.pub⟩ (fun _ _=>True) id o:=fun id o' ho'=>by obtain⟨q,i,r,o2,e1,e2,e3,e4⟩:=k1 id o' ho';subst e1;exact xc (cG (lK L i 900 q r hdist e2)) (h3.slots i o2 e3) e4
       have hdom1:∀id,ak S1 id=none->cR L Ω1.e id=none:=fun id hid=>by
        unfold cR
        cases hl:bj L id with
        |none=>rfl
        |some x=>obtain⟨o1,o2,_,_,q3⟩:=hlent1 id x.1 x.2 hl;rw[hid]at q3;cases q3
       have hinj1:Inj (cR L Ω1.e):=fun i j c c' b oo hi hj ho1 ho2=>by obtain⟨i1,r1,c1,p1,p2,p3⟩:=jz h3.slots hLs hi;obtain⟨i2,r2,c2,p4,p5,p6⟩:=jz h3.slots hLs hj;have:=h3.inj i1 i2 c1 c2 b oo p2 p5 (p3 b oo ho1) (p6 b oo ho2);subst this;have a1:=dq hdist p1;have a2:=dq hdist p4;rw[a1]at a2;simp at a2;exact a2.1
       have hpin:∀id c,cR L Ω1.e id=some c->bp id=true:=by
        intro id c hc
        cases hg:ak S1 id with
        |none=>rw[hdom1 id hg]at hc;cases hc
        |some o=>have:=k3 (id,o) (cd _ _ _ hg);simp only[bp,Mo,Pz,OI];simp only at this;omega
       have hkS:∀k∈aJ S1,∃c,cR L Ω1.e k=some c:=by
        intro k hk;obtain⟨x,hx,rfl⟩:=MV.1 hk
        cases hg:ak S1 x.1 with
        |none=>exact absurd (MV.2 ⟨x,hx,rfl⟩) (jA _ _ hg)
        |some o=>
         have hso:=hslots x.1 o hg
         cases o with
         |box c=>obtain⟨_,_,e1,_⟩:=hso;exact⟨_,e1⟩
         |tail τ n=>obtain⟨_,_,e1,_⟩:=hso;exact⟨_,e1⟩
         |map κ τ m=>obtain⟨_,e1,_⟩:=hso;exact⟨_,e1⟩
         |bld t u l=>obtain⟨_,_,e1,_⟩:=hso;exact⟨_,e1⟩
         |tailp τ n x=>obtain⟨_,_,e1,_⟩:=hso;exact⟨_,e1⟩
         |grow τ n x=>obtain⟨_,_,e1,_⟩:=hso;exact⟨_,e1⟩
       have hlen1:as1.length<=fn.ntmps:=by have:=hvl.1;rw[this,NU,h3.size];exact Mx _
       have hi1:=ki (n:=fn.ntmps) h3.pubok (h3.tabsC hLs) hvl hlen1 hslots hdom1 hinj1 hpin
       have hi2:=hi1.retmp' (T:=aK (da 0 as1)) (a':={tmps:=a1.tmps,defers:=[{target:=.fn (.func g) (R.caps.toArray.map a1.eval),args:=#[]}]}) (n:=fn.ntmps) (ds:=[{target:=.fn (.func g) (R.caps.toArray.map a1.eval),args:=#[]}])
        (fun i=>by
         have:=hi1.tmps i;have e0:(a1.tmps.toList.toArray++Array.replicate (fn.ntmps-a1.tmps.toList.toArray.size) undef)=a1.tmps:=by have hz:a1.tmps.size=fn.ntmps:=h3.size;apply Nt;simp[hz]
         rw[e0]at this;exact this) h3.size rfl
       have hi3:=hi2.pure (dst:=some R.t5) (val:=.undef) (v:=.func (.func g) #[] (R.caps.toArray.map a1.eval)) (.undef _) (fun d e=>by cases e;exact hk5)
       have hi4:=hi3.weak (s':=St.abs ⟨gq (da 0 as1) R.t5 .undef,S1⟩) (fun i=>by
        simp only[St.abs,eQ,bC];by_cases e5:R.t5=i
        ·left;simp[e5]
        ·right;simp[e5]) rfl
       have hact:(({tmps:=a1.tmps,defers:=[{target:=.fn (.func g) (R.caps.toArray.map a1.eval),args:=#[]}]}:Act).put (some R.t5) (.func (.func g) #[] (R.caps.toArray.map a1.eval)))=
         ({(a1.put (some R.t5) (.func (.func g) #[] (R.caps.toArray.map a1.eval)))with defers:={target:=.fn (.func g) (R.caps.toArray.map a1.eval),args:=#[]}::(a1.put (some R.t5) (.func (.func g) #[] (R.caps.toArray.map a1.eval))).defers}:Act).put none undef:=by
        simp[Act.put,hdef0]
       show Code.wp P R.rest _ (({(a1.put (some R.t5) (.func (.func g) #[] (R.caps.toArray.map a1.eval)))with defers:={target:=.fn (.func g) (R.caps.toArray.map a1.eval),args:=#[]}::(a1.put (some R.t5) (.func (.func g) #[] (R.caps.toArray.map a1.eval))).defers}:Act).put none undef) Ω1.w;rw[<-hact];refine Ou (lN hm hT hS _ ann R.rest _ _ _ ⟨cR L Ω1.e,Ω1.w,Ω1.pub⟩ h4 hdr.2 hi4) ?_;intro en a2 w2 hq;obtain⟨z,s2,Ω2,g1,rfl,g3,g4⟩:=hq;have hcv2:VL Ω2 caps (R.caps.map a1.eval):=by refine⟨hvc.1,fun j c v hc hv=>?_⟩;exact V.pinned g3.keep (MI.1 hcp c (MN hc)) (hvc.2 j c v hc hv)
       have hcl':caps.length<=clo.ntmps:=by rw[hvc.1,MZ];exact hcl
       have hc6':caps.length<=R.t6:=by rw[hvc.1,MZ];exact hc6
       have close:∀(u u':FrameMode)(av:AV)(v:Value),u≠.run->settle u'=.returning->Rcv u av Ω2 v u'->ym C annC clo R caps av s2 (Hk C fn.results.toList L s1 S1 S A s2.t)->
         Leaves P fn a2.tmps (fun en w'=>∃pub' e',match en with
          |.returned v=>(∀b pv u,A.pan=some (b,pv,u)->b=false)/\V ⟨e',w',pub'⟩ A.val v/\After w pub e (ak (ca S A.upd)) w' pub' e'
          |.panicked ch=>∃pv u v,A.pan=some (true,pv,u)/\ch=[{v,recovered:=false}]/\V ⟨e',w',pub'⟩ pv v/\After w pub e (ak (ca S u)) w' pub' e'
          |.outgrown=>False) [{target:=.fn (.func g) (R.caps.toArray.map a1.eval),args:=#[]}] u Ω2.w:=by
        intro u u' av v hu hse hrc hcr;refine leaves_cons (f:=g) (args:=(R.caps.map a1.eval).toArray) hu (by simp[invoke,eg]) ?_;refine(AX hm hT hS hRc hg hcb hk2 hres hcl' hc6' g3 hcv2 hrc hcr).mono ?_;rintro en u2 w3 ⟨rfl,rfl,s3,Ω3,a3,T3,rfl,hfin,h5⟩;simp only[hse,Leaves];obtain⟨v,r1,pub',e',r2,r3,r4⟩:=Ez hT h3 hdist hS1 hkS g3 h5 hpan hfin;exact⟨v,r1,pub',e',r2,r3,r4⟩
       have hds:a2.defers=[{target:=.fn (.func g) (R.caps.toArray.map a1.eval),args:=#[]}]:=g3.defers
       cases z with
       |normal=>cases g1;show Leaves P fn a2.tmps _ a2.defers .returning Ω2.w;rw[hds];exact close .returning .returning .nilif .nilIface (by simp) rfl (.ret Ω2) g4
       |ret=>cases g1;show Leaves P fn a2.tmps _ a2.defers .returning Ω2.w;rw[hds];exact close .returning .returning .nilif .nilIface (by simp) rfl (.ret Ω2) g4
       |exit id=>exact g4.elim
       |pan pv=>obtain⟨v,rfl,hv⟩:=g1;show Leaves P fn a2.tmps _ a2.defers (.panicking [{v,recovered:=false}]) Ω2.w;rw[hds];exact close _ (.panicking [{v,recovered:=true}]) pv v (by simp) (by simp[settle]) (.pan Ω2 pv v hv) g4
      ·exact h4.elim
     ·exact h4.elim
 ·exact h.elim
end
end Go.AL
end
noncomputable section
namespace Go.AL
variable [Tabs]
mutual
def fineV:AV->Bool
 |.lstp _ _ _=>false
 |.tptr _ _ _=>false
 |.cptr c=>fineV c
 |.agg cs=>fineVs cs
 |.tup cs=>fineVs cs
 |.fn _ cs=>fineVs cs
 |.iface _ a=>fineV a
 |_=>true
def fineVs:List AV->Bool
 |[]=>true
 |a::r=>fineV a&&fineVs r
end
def KQ:SObj->Bool
 |.box c=>fineV c
 |.tailp _ _ _=>false
 |_=>true
mutual
def strip:AV->AV
 |.lst τ xs _=>.lst τ xs none
 |.agg cs=>.agg (strips cs)
 |.tup cs=>.tup (strips cs)
 |a=>a
def strips:List AV->List AV
 |[]=>[]
 |a::r=>strip a::strips r
end
theorem ky(τ:Ty)(xs:List (den τ)):ff τ τ xs=some xs:=by simp[ff]
theorem AY(n:SN)(x:SD n):kG n n x=some x:=by simp[kG]
theorem AZ(n:SN)(x:Option (SD n)):p8 n n x=some x:=by simp[p8]
theorem sQ(a:AV):tW a a:=by cases a<;>trivial
mutual
theorem LeV_self(G:List Nat):∀a:AV,fineV a=true->LeV G a a
 |.undef,_=>bO (by simp[LeF])
 |.int k n,_=>bO (by simp[LeF])
 |.bool b,_=>bO (by simp[LeF])
 |.str s,_=>bO (by simp[LeF])
 |.lst τ xs o,_=>bO (by simp[LeF,ky])
 |.nils,_=>bO (by simp[LeF])
 |.ptr i o,_=>bO (by simp[LeF])
 |.nilp,_=>bO (by simp[LeF])
 |.pt n x,_=>bO (by simp[LeF,AZ])
 |.st n x,_=>bO (by simp[LeF,AY])
 |.row τ xs,_=>bO (by simp[LeF,ky])
 |.arr i n w,_=>bO (by simp[LeF])
 |.aptr i n w o,_=>bO (by simp[LeF])
 |.map i,_=>bO (by simp[LeF])
 |.glst _ _ _,_=>bO (by simp[LeF])
 |.gptr _ _ _ _ _,_=>bO (by simp[LeF])
 |.bptr i,_=>bO (by simp[LeF])
 |.nilif,_=>bO (by simp[LeF])
 |.nilm,_=>bO (by simp[LeF])
 |.cptr c,h=>by simp only[fineV]at h;unfold LeV;exact⟨sQ c,LeV_self G c h⟩
 |.agg cs,h=>by simp only[fineV]at h;unfold LeV;exact LeL_self G cs h
 |.tup cs,h=>by simp only[fineV]at h;unfold LeV;exact LeL_self G cs h
 |.fn f cs,h=>by simp only[fineV]at h;unfold LeV;exact⟨by simp,LeL_self G cs h⟩
 |.iface t a,h=>by simp only[fineV]at h;unfold LeV;exact⟨by simp,LeV_self G a h⟩
 |.lstp _ _ _,h=>by cases h
 |.tptr _ _ _,h=>by cases h
theorem LeL_self(G:List Nat):∀l:List AV,fineVs l=true->LeL G l l
 |[],_=>by unfold LeL;trivial
 |a::r,h=>by simp only[fineVs,Mo]at h;unfold LeL;exact⟨LeV_self G a h.1,LeL_self G r h.2⟩
end
mutual
theorem LeV_strip(G:List Nat):∀a:AV,fineV a=true->LeV G a (strip a)
 |.lst τ xs o,_=>by unfold strip;exact bO (by simp[LeF,ky])
 |.agg cs,h=>by simp only[fineV]at h;unfold strip LeV;exact LeL_strip G cs h
 |.tup cs,h=>by simp only[fineV]at h;unfold strip LeV;exact LeL_strip G cs h
 |.undef,h=>LeV_self G _ h
 |.int k n,h=>LeV_self G _ h
 |.bool b,h=>LeV_self G _ h
 |.str s,h=>LeV_self G _ h
 |.nils,h=>LeV_self G _ h
 |.ptr i o,h=>LeV_self G _ h
 |.nilp,h=>LeV_self G _ h
 |.pt n x,h=>LeV_self G _ h
 |.st n x,h=>LeV_self G _ h
 |.row τ xs,h=>LeV_self G _ h
 |.arr i n w,h=>LeV_self G _ h
 |.aptr i n w o,h=>LeV_self G _ h
 |.map i,h=>LeV_self G _ h
 |.glst _ _ _,h=>LeV_self G _ h
 |.gptr _ _ _ _ _,h=>LeV_self G _ h
 |.bptr i,h=>LeV_self G _ h
 |.nilif,h=>LeV_self G _ h
 |.nilm,h=>LeV_self G _ h
 |.cptr c,h=>LeV_self G _ h
 |.fn f cs,h=>LeV_self G _ h
 |.iface t a,h=>LeV_self G _ h
 |.lstp _ _ _,h=>by cases h
 |.tptr _ _ _,h=>by cases h
theorem LeL_strip(G:List Nat):∀l:List AV,fineVs l=true->LeL G l (strips l)
 |[],_=>by unfold strips LeL;trivial
 |a::r,h=>by simp only[fineVs,Mo]at h;unfold strips LeL;exact⟨LeV_strip G a h.1,LeL_strip G r h.2⟩
end
theorem yn{G:List Nat}{s:St}:∀(l l':List AV)(k:Nat),LeL G l l'->(∀j,aK s.t (k+j)=l.getD j .undef)->LeT G s (da k l')
 |[],[],k,_,_=>trivial
 |a::r,b::r',k,h,hg=>by
  unfold LeL at h;refine⟨?_,yn r r' (k+1) h.2 fun j=>?_⟩
  ·have:=hg 0;rw[O7]at this;rw[this];exact h.1
  ·have:=hg (j+1);rw[show k+1+j=k+(j+1) by omega,this];rfl
 |[],_::_,_,h,_=>by unfold LeL at h;exact h.elim
 |_::_,[],_,h,_=>by unfold LeL at h;exact h.elim
theorem jO{G:List Nat}{s:St}:∀l:List (Nat×SObj),(∀x∈l,ak s.b x.1=some x.2/\KQ x.2=true)->LeB G s l
 |[],_=>trivial
 |(i,.box c)::r,h=>by obtain⟨h1,h2⟩:=h _ (N2 ..);refine⟨?_,jO r fun x hx=>h x (MK _ hx)⟩;simp only at h1;rw[h1];exact⟨sQ c,LeV_self G c h2⟩
 |(i,.tail τ n)::r,h=>by obtain⟨h1,h2⟩:=h _ (N2 ..);refine⟨?_,jO r fun x hx=>h x (MK _ hx)⟩;simp only at h1;rw[h1];simp
 |(i,.map κ τ m)::r,h=>by obtain⟨h1,h2⟩:=h _ (N2 ..);refine⟨?_,jO r fun x hx=>h x (MK _ hx)⟩;simp only at h1;rw[h1];simp[Cp]
 |(i,.bld t u l)::r,h=>by obtain⟨h1,h2⟩:=h _ (N2 ..);refine⟨?_,jO r fun x hx=>h x (MK _ hx)⟩;simp only at h1;rw[h1];simp
 |(i,.tailp τ n x)::r,h=>by obtain⟨h1,h2⟩:=h _ (N2 ..);cases h2
 |(i,.grow τ n xs)::r,h=>by obtain⟨h1,h2⟩:=h _ (N2 ..);refine⟨?_,jO r fun x hx=>h x (MK _ hx)⟩;simp only at h1;rw[h1];simp[ky]
end Go.AL
end
noncomputable section
namespace Go.AL
def pP(S:List (Nat×SObj))(x:Nat×SObj):Bool:=match ak S x.1 with|some o=>eqO o x.2|none=>false
def Hm:List AV->AV
 |[a]=>a
 |l=>.tup l
def Hn(s:St)(l:List AV):List (Nat×SObj):=
 s.b.filter fun x=>bp x.1||(ju (ak s.b) 64 (ids.idsL l++(aJ s.b).filter bp) []).contains x.1
def LO:Bool->List AV->List AV
 |true,l=>l
 |false,l=>strips l
def Ho(tok:Bool)(S:List (Nat×SObj))(s:St)(l:List AV):Option Ans:=
 evVs (LO tok l) fun l'=>evB (Hn s l') fun kept=>
  match fineVs l&&(kept.all (fun x=>KQ x.2))&&bf (aJ s.b)&&(aJ S).all (fun i=>(aJ kept).contains i)&&
    (cD ((aJ s.b).filter fun i=>!(aJ kept).contains i) ⟨da 0 l',kept⟩&&((aJ s.b).filter fun i=>!(aJ kept).contains i).all (fun i=>!bp i))with
  |true=>some ⟨none,none,Hm l',kept.filter fun x=>!pP S x⟩
  |false=>none
theorem qu:∀{l:List (Nat×SObj)},bf (aJ l)=true->∀{i:Nat} {o:SObj},(i,o)∈l->ak l i=some o
 |[],_,_,_,h=>by cases h
 |(j,u)::r,hd,i,o,h=>by
  simp only[aJ,MT,bf,Mo,MO,N8,N6]at hd;rcases MJ.1 h with e|e
  ·cases e;simp[aL,aI]
  ·have hne:¬j=i:=fun q=>hd.1 (MV.2 ⟨_,e,q.symm⟩);simp only[aL,aI,Nd,hne,N1];exact qu hd.2 e
theorem ig(p:Nat×SObj->Bool):∀{l:List (Nat×SObj)},bf (aJ l)=true->bf (aJ (l.filter p))=true
 |[],_=>rfl
 |x::r,hd=>by
  simp only[aJ,MT,bf,Mo,MO,N8,N6]at hd;have ih:=ig p hd.2;rw[List.filter_cons];split
  ·simp only[aJ,MT,bf,Mo,MO,N8,N6];refine⟨fun h=>hd.1 ?_,ih⟩;obtain⟨y,hy,e⟩:=MV.1 h;exact MV.2 ⟨y,(Nh.1 hy).1,e⟩
  ·exact ih
variable [Tabs]
theorem Hp{l:List (Nat×SObj)}{i:Nat}(h:ak l i=none):i∉aJ l:=jA l i h
theorem sR{l:List (Nat×SObj)}{i:Nat}(h:i∉aJ l):ak l i=none:=by
 cases hb:ak l i with|none=>rfl|some o=>exact absurd (MV.2 ⟨(i,o),cd l i o hb,rfl⟩) h
theorem JN{S kept:List (Nat×SObj)}(hd:bf (aJ kept)=true)(hS:∀i∈aJ S,i∈aJ kept):ak (ca S (kept.filter fun x=>!pP S x))=ak kept:=by
 funext i;have hdf:=ig (fun x=>!pP S x) hd;rw[oX _ S i hdf]
 cases hk:ak kept i with
 |some o=>
  have hm:=cd kept i o hk
  cases hs:pP S (i,o)with
  |false=>have:(i,o)∈kept.filter fun x=>!pP S x:=Nh.2 ⟨hm,by rw[hs];rfl⟩;rw[qu hdf this];rfl
  |true=>
   have hn:ak (kept.filter fun x=>!pP S x) i=none:=by
    cases hb:ak (kept.filter fun x=>!pP S x) i with
    |none=>rfl
    |some o'=>have h1:=Nh.1 (cd _ i o' hb);have h2:=qu hd h1.1;rw[hk]at h2;cases h2;have h3:=h1.2;rw[hs]at h3;cases h3
   rw[hn];unfold pP at hs;split at hs
   ·rename_i o' ho';simp only at ho' hs;rw[ho',FN hs];rfl
   ·cases hs
 |none=>
  have h1:i∉aJ kept:=Hp hk;rw[sR (l:=S) fun h=>h1 (hS i h),sR fun h=>h1 ?_]
  ·rfl
  ·obtain⟨y,hy,e⟩:=MV.1 h;exact MV.2 ⟨y,(Nh.1 hy).1,e⟩
theorem sS{G:List Nat}:∀{l m:List AV},LeL G l m->l.length=m.length
 |[],[],_=>rfl
 |_::_,_::_,h=>by unfold LeL at h;rw[ML,ML,sS h.2]
 |[],_::_,h=>by unfold LeL at h;exact h.elim
 |_::_,[],h=>by unfold LeL at h;exact h.elim
theorem EA{tok:Bool}{S:List (Nat×SObj)}{s:St}{l:List AV}{A:Ans}(h:Ho tok S s l=some A) :
  A.ob=none/\A.pan=none/\∃l' kept,A.val=Hm l'/\l'.length=l.length/\LeS ⟨da 0 l,s.b⟩ ⟨da 0 l',kept⟩/\ak (ca S A.upd)=ak kept:=by
 unfold Ho at h;rw[evVs_eq,w9]at h;split at h
 ·rename_i hc;cases h;simp only[Mo,MI]at hc;obtain⟨⟨⟨⟨h1,h2⟩,h3⟩,h4⟩,h5,h6⟩:=hc;refine⟨rfl,rfl,LO tok l,Hn s (LO tok l),rfl,?_,⟨?_,?_,?_⟩,?_⟩
  ·cases tok with|true=>rfl|false=>exact(sS (LeL_strip [] l h1)).symm
  ·rw[Mu]
   ·trivial
   ·rw[Mo,MI];exact⟨h5,h6⟩
  ·refine yn l _ 0 ?_ fun j=>?_
   ·cases tok with|true=>exact LeL_self _ l h1|false=>exact LeL_strip _ l h1
   ·show aK (da 0 l) (0+j)=_;rw[gB];simp
  ·refine jO _ fun x hx=>⟨?_,h2 x hx⟩;exact qu h3 (Nh.1 hx).1
  ·refine JN (ig _ h3) fun i hi=>?_;have:=h4 i hi
   rwa [N8,MD]at this
 ·cases h
structure FB where
 body:Code
 n:Nat
 res:List ResultVar
 keep:Nat
 pubs:List (Nat×List Nat)
 pend:Nat->Bool
 rows:Nat->Bool
 same:Nat->Bool
 tok:Bool
 ps:List (Option Ty)
def Hq:Option Ty->AV->AV
 |some (.st n),a=>(match arg (.st n) a with|some x=>.st n x|none=>a)
 |_,a=>a
def Dj:List (Option Ty)->List AV->List AV
 |p::ps,a::r=>Hq p a::Dj ps r
 |_,l=>l
def LP(C:Cfg)(N:Nat)(x:FB)(args:List AV)(S:List (Nat×SObj)):Option Ans:=
 evVs (Dj x.ps args) fun args=>evB S fun S=>
  match mq args x.n&&(aJ S).all bp with
  |false=>none
  |true=>
   match jN C x.keep x.pubs N x.body ⟨da 0 args,S⟩with
   |some (.normal,s)=>(match kC C.tbl s x.res with|some l=>Ho x.tok S s l|none=>none)
   |some (.ret,s)=>(match kC C.tbl s x.res with|some l=>Ho x.tok S s l|none=>none)
   |_=>none
variable {P:Program} {C:Cfg}
theorem Hr(p:Option Ty)(a:AV):Rd a (Hq p a):=by
 unfold Hq;split
 ·split
  ·rename_i x hx;exact Rd.arg hx
  ·exact Rd.refl a
 ·exact Rd.refl a
theorem yo:∀(ps:List (Option Ty))(l:List AV),RdL l (Dj ps l)
 |[],l=>RdL.refl l
 |p::ps,[]=>.nil
 |p::ps,a::r=>.cons (Hr p a) (yo ps r)
theorem runF_meets(hm:P.follows .mixedOrders=true)(hT:aQ P C.tbl)(hS:bN P C.spec){N:Nat}{x:FB}{f:Nat}{fn:Func}(hf:P.funcs[f]?=some fn)(hb:fn.body=some x.body)(hn:fn.ntmps=x.n)(hr:fn.results.toList=x.res)
 (hd:bG x.n x.body=true){args:List AV}{S:List (Nat×SObj)}{A:Ans}(h:LP C N x args S=some A):aw P f args S A:=by
 refine aw.args (yo x.ps args) ?_;intro w pub e vs hp ht hv hs hdom hinj;unfold LP at h;rw[evVs_eq,w9]at h;split at h
 ·cases h
 ·rename_i hck;simp only[Mo,MI]at hck;obtain⟨hck2,hck3⟩:=hck;have hlen:=ez _ _ hck2
  have hlent:∀id c,e id=some c->bp id=true:=by
   intro id c hc
   cases hg:ak S id with
   |none=>rw[hdom id hg]at hc;cases hc
   |some o=>exact hck3 id (MV.2 ⟨(id,o),cd _ _ _ hg,rfl⟩)
  have hrun:∃z s',jN C x.keep x.pubs N x.body ⟨da 0 (Dj x.ps args),S⟩=some (z,s')/\(match kC C.tbl s' x.res with|some l=>Ho x.tok S s' l|none=>none)=some A/\(z=.normal∨z=.ret):=by
   split at h
   ·rename_i s' hz;exact⟨_,s',hz,h,.inl rfl⟩
   ·rename_i s' hz;exact⟨_,s',hz,h,.inr rfl⟩
   ·cases h
  obtain⟨z,s',hz,he,hzz⟩:=hrun;refine calls_of_wp hf hb ?_;have hh:=ki (n:=fn.ntmps) hp ht hv (by rw[hn];exact hlen) hs hdom hinj hlent;rw[<-hn]at hd;refine Ou (AW (F:=⟨w,pub,fn.ntmps,e,hlent,[],ht⟩) hm hT hS _ _ N x.body _ z s' _ _ hz hd hh) ?_;intro en a' w' hq;obtain⟨z2,s2,Ω',h1,h2,h3,h4,h5⟩:=hq;subst h2 h4 h5
  have hmap:∀us,(fn.results.toList.mapM (oH a'.tmps)).run P Ω'.w=.ok us Ω'.w->
    (results fn a'.tmps).run P Ω'.w=.ok (if h:us.toArray.size=1 then us.toArray[0]else .tuple us.toArray) Ω'.w:=by
   intro us hus;rw[mQ,<-NX (xs:=fn.results),Pb];simp only[MG,Sem.run_map,hus,Mw,MY]
  have main:a'.defers=[]/\∃v,(results fn a'.tmps).run P Ω'.w=.ok v Ω'.w/\∃pub' e',(∀b pv u,A.pan=some (b,pv,u)->b=false)/\V ⟨e',Ω'.w,pub'⟩ A.val v/\After w pub e (ak (ca S A.upd)) Ω'.w pub' e':=by
   refine⟨h3.defers,?_⟩;split at he
   ·rename_i l hres;rw[<-hr]at hres;obtain⟨a1,a2,l',kept,a3,a4,a5,a6⟩:=EA he;obtain⟨us,k1,k2⟩:=fM hT h3 _ _ hres;obtain⟨Ω2,e2,hh2⟩:=dX (s:=⟨da 0 l,s2.b⟩) (h3.retmp k2) a5;rw[a3,a6];refine⟨_,hmap us k1,Ω2.pub,Ω2.e,fun b pv u q=>(by rw[a2]at q;cases q),?_,by rw[<-e2];exact iK hh2⟩
    have hval:∀(j:Nat) c v,l'[j]?=some c->us[j]?=some v->V ⟨Ω2.e,Ω'.w,Ω2.pub⟩ c v:=fun j c v hc hv=>by
     have:=hh2.tmps j;simp only[St.abs,gB,ME,Nu,OT,Ms,hc,Nl]at this;have e3:(us.toArray++Array.replicate 0 undef).getD j undef=v:=by simp[MC,hv]
     rw[e3]at this;rw[<-e2];exact this
    have hlu:l'.length=us.length:=a4.trans k2.1;by_cases h1':us.toArray.size=1
    ·rw[dif_pos h1'];obtain⟨u,rfl⟩:=jD (l:=us) (by simpa using h1');obtain⟨c,rfl⟩:=jD (l:=l') (by rw[hlu];rfl);exact hval 0 c u rfl rfl
    ·rw[dif_neg h1']
     have:Hm l'=.tup l':=by
      match l',hlu with
      |[],_=>rfl
      |[c],q=>exact absurd (by simpa using q.symm) h1'
      |_::_::_,_=>rfl
     rw[this];exact .tup l' us hlu hval
   ·cases he
  rcases hzz with rfl|rfl
  ·cases h1;exact main
  ·cases h1;exact main
def Dk:List (Nat×FB)->Nat->Option FB
 |[],_=>none
 |(j,x)::r,f=>if Nat.beq j f=true then some x else Dk r f
def aD(tbl:List (Nat×TR))(fn:Func)(keep:Nat)(pubs:List (Nat×List Nat))(pend rows same:Nat->Bool)(tok:Bool):FB:=
 ⟨fn.body.getD .skip,fn.ntmps,fn.results.toList,keep,pubs,pend,rows,same,tok,fn.params.toList.map fun t=>(aF tbl t).bind (·.ty)⟩
def fbok(fn:Func):Bool:=match fn.body with | none=>false | some c=>bG fn.ntmps c && !(fn.name == "runtime.NumGoroutine")
def ah(P:Program)(tab:List (Nat×FB)):Prop:=∀f x,Dk tab f=some x->
 ∃fn,P.funcs[f]?=some fn/\fn.body=some x.body/\fn.ntmps=x.n/\fn.results.toList=x.res/\bG x.n x.body=true/\(fn.name == "runtime.NumGoroutine")=false
theorem ah.nil:ah P []:=fun f x h=>by cases h
theorem ah.cons{tbl:List (Nat×TR)}{f:Nat}{fn:Func}{keep:Nat}{pubs:List (Nat×List Nat)}{pend rows same:Nat->Bool}{tok:Bool}{tab:List (Nat×FB)}(hf:P.funcs[f]?=some fn)(hc:fbok fn=true)(ht:ah P tab) :
  ah P ((f,aD tbl fn keep pubs pend rows same tok)::tab):=by
 intro g x h;unfold Dk at h;split at h
 ·rename_i hb;obtain rfl:=MP hb;cases h;unfold fbok at hc;split at hc
  ·cases hc
  ·rename_i c hb';simp only[Mo,MO]at hc;exact⟨fn,hf,by simp[aD,hb'],rfl,rfl,by simpa[aD,hb']using hc.1,hc.2⟩
 ·exact ht g x h
def yp(tbl:List (Nat×TR))(tab:List (Nat×FB))(keeps:Nat->Bool)(lends:Nat->List (Option Nat))(N:Nat)(base:Nat->List AV->List (Nat×SObj)->Option Ans) :
  Nat->Nat->List AV->List (Nat×SObj)->Option Ans
 |0,f,us,S=>base f us S
 |n+1,f,us,S=>
  match base f us S with
  |some A=>some A
  |none=>
  match Dk tab f with
  |none=>none
  |some x=>LP ⟨tbl,yp tbl tab keeps lends N base n,keeps,lends,x.pend,x.rows,x.same⟩ N x us S
theorem Dl{tbl:List (Nat×TR)}{tab:List (Nat×FB)}{keeps:Nat->Bool}{lends:Nat->List (Option Nat)}{N:Nat}{base:Nat->List AV->List (Nat×SObj)->Option Ans}
 (hm:P.follows .mixedOrders=true)(hT:aQ P tbl)(hB:bN P base)(ht:ah P tab):∀n:Nat,bN P (yp tbl tab keeps lends N base n)
 |0=>hB
 |n+1=>by
  intro f args S A h ho hl;unfold yp at h;split at h
  ·rename_i A' hb;cases h;exact hB f args S A hb ho hl
  split at h
  ·cases h
  ·rename_i x hx;obtain⟨fn,h1,h2,h3,h4,h5,h6⟩:=ht f x hx;exact⟨⟨fn,h1,by rw[h2];rfl,h6⟩,runF_meets hm hT (Dl hm hT hB ht n) h1 h2 h3 h4 h5 h⟩
theorem lZ{tbl:List (Nat×TR)}{tab:List (Nat×FB)}{keeps:Nat->Bool}{lends:Nat->List (Option Nat)}{N n f:Nat}{base:Nat->List AV->List (Nat×SObj)->Option Ans}{args:List AV}{v:AV}{u:List (Nat×SObj)}
 (hm:P.follows .mixedOrders=true)(hT:aQ P tbl)(hB:bN P base)(ht:ah P tab)(h:yp tbl tab keeps lends N base n f args []=some ⟨none,none,v,u⟩):aw P f args [] ⟨none,none,v,u⟩:=
 (Dl hm hT hB ht n f args [] _ h (fun _ q=>by cases q) rfl).2
end Go.AL
end
noncomputable section
namespace Go.AL
variable [Tabs] {P:Program}
def q1(τ:Ty)(b:den τ->Bool)(F:den τ->AV):Pat
 |[a],[]=>(match arg τ a with|some x=>(match b x with|true=>some (.ret (F x))|false=>none)|none=>none)
 |_,_=>none
theorem Hs{f:Nat}{τ:Ty}{b:den τ->Bool}{F:den τ->AV}{O:den τ->Prop}(h:ag P f (p1 τ fun x=>⟨some (O x),none,F x,[]⟩))(hb:∀x,b x=true->O x):ag P f (q1 τ b F):=by
 intro args S A hA ho hl;unfold q1 at hA;split at hA
 ·rename_i a;split at hA
  ·rename_i x hx;split at hA
   ·rename_i ht;cases hA;have k:=h [a] [] ⟨some (O x),none,F x,[]⟩ (by simp[p1,hx]) (fun q hq=>by cases hq;exact hb x ht) hl;exact⟨k.1,k.2⟩
   ·cases hA
  ·cases hA
 ·cases hA
def q2(τ σ:Ty)(b:den τ->den σ->Bool)(F:den τ->den σ->AV):Pat
 |[a,c],[]=>(match arg τ a,arg σ c with|some x,some y=>(match b x y with|true=>some (.ret (F x y))|false=>none)|_,_=>none)
 |_,_=>none
theorem uG{f:Nat}{τ σ:Ty}{b:den τ->den σ->Bool}{F:den τ->den σ->AV}{O:den τ->den σ->Prop}(h:ag P f (p2 τ σ fun x y=>⟨some (O x y),none,F x y,[]⟩))(hb:∀x y,b x y=true->O x y):ag P f (q2 τ σ b F):=by
 intro args S A hA ho hl;unfold q2 at hA;split at hA
 ·rename_i a c;split at hA
  ·rename_i x y hx hy;split at hA
   ·rename_i ht;cases hA;have k:=h [a,c] [] ⟨some (O x y),none,F x y,[]⟩ (by simp[p2,hx,hy]) (fun q hq=>by cases hq;exact hb x y ht) hl;exact⟨k.1,k.2⟩
   ·cases hA
  ·cases hA
 ·cases hA
def Dm(as0:List AV)(v:AV):Pat:=fun args S=>match eqVs as0 args,S with|true,[]=>some (.ret v)|_,_=>none
theorem Dn{f:Nat}{as0:List AV}{v:AV}(he:au P f)(h:aw P f as0 [] (.ret v)):ag P f (Dm as0 v):=by
 intro args S A hA ho hl;unfold Dm at hA;split at hA
 ·rename_i heq;cases hA;rw[<-eqVs_ok _ _ heq];exact⟨he,h⟩
 ·cases hA
def t1(τ:Ty)(b:den τ->Bool):List AV->List (Nat×SObj)->Bool
 |[a],_=>(match arg τ a with|some x=>b x|none=>false)
 |_,_=>false
end Go.AL
end
section
open Go Go.AL Go.Proofs
namespace Go.AL.Seat
variable [Tabs]
def r1:TR:=⟨.other,1,8,[.undef],none⟩
def r2:TR:=⟨.int .i64,1,8,[.int .i64 0],some (.int .i64)⟩
def r5:TR:=⟨.int .u8,1,1,[.int .u8 0],some (.int .u8)⟩
def r7:TR:=⟨.strct true [(0,2),(1,3),(2,4),(3,6)],4,24,[.int .i64 0,.int .i64 0,.bool false,.int .u8 0],none⟩
def r9:TR:=⟨.str,1,16,[.str []],some .str⟩
def r12:TR:=⟨.int .u64,1,8,[.int .u64 0],some (.int .u64)⟩
def r13:TR:=⟨.strct false [(0,9),(1,12)],2,24,[.str [],.int .u64 0],none⟩
def r18:TR:=⟨.strct false [(0,17)],1,8,[.nilp],none⟩
def r20:TR:=⟨.iface,1,16,[.nilif],none⟩
def r21:TR:=⟨.int .i32,1,4,[.int .i32 0],some (.int .i32)⟩
def r67:TR:=⟨.strct false [(0,61)],1,24,[.nils],none⟩
def r70:TR:=⟨.strct false [(0,68),(1,69),(2,66)],3,56,[.nils,.nils,.nilp],none⟩
def r87:TR:=⟨.strct true [(0,9),(1,3),(2,4)],3,32,[.str [],.int .i64 0,.bool false],none⟩
def r97:TR:=⟨.strct false [(0,31),(1,96)],2,48,[.nils,.nils],none⟩
def r126:TR:=⟨.strct false [(0,125),(1,122)],2,32,[.nilp,.nils],none⟩
def JO:TR:=⟨.strct true [(0,9),(1,3)],2,24,[.str [],.int .i64 0],none⟩
def JP:TR:=⟨.strct false [(0,154),(2,102),(3,55)],5,64,[.str [],.int .i64 0,.nils,.int .i64 0,.int .i64 0],none⟩
def EB:TR:=⟨.strct true [(0,3),(1,3),(2,3),(3,3)],4,32,[.int .i64 0,.int .i64 0,.int .i64 0,.int .i64 0],none⟩
def r249:TR:=⟨.strct true [(0,5),(1,5)],2,2,[.int .u8 0,.int .u8 0],none⟩
def EC:TR:=⟨.strct false [],0,0,[],none⟩
def r285:TR:=⟨.strct false [(0,9),(1,9),(2,129)],3,48,[.str [],.str [],.nilif],none⟩
def r299:TR:=⟨.strct true [(0,9)],1,16,[.str []],none⟩
def r313:TR:=⟨.strct false [(0,17),(1,17),(2,17),(3,9)],4,40,[.nilp,.nilp,.nilp,.str []],none⟩
def r323:TR:=⟨.strct false [(0,12),(1,12),(2,280),(3,318),(4,5),(5,5),(6,319),(7,320),(8,176),(9,321),(10,322)],11,48,[.int .u64 0,.int .u64 0,.int .u32 0,.int .u8 0,.int .u8 0,.int .u8 0,.int .u8 0,.undef,.nilp,.int .i32 0,.int .i32 0],none⟩
def tbl:List (Nat×TR):=[(1,r1),
 (2,r2),
 (3,r2),
 (4,⟨.bool,1,1,[.bool false],some .bool⟩),
 (5,r5),
 (6,r5),
 (7,r7),
 (8,r7),
 (9,r9),
 (10,r9),
 (11,r9),
 (12,r12),
 (13,r13),
 (14,r13),
 (15,⟨.ptr 314,1,8,[.nilp],none⟩),
 (16,⟨.ptr 317,1,8,[.nilp],none⟩),
 (17,⟨.ptr 324,1,8,[.nilp],none⟩),
 (18,r18),
 (19,r18),
 (20,r20),
 (21,r21),
 (22,⟨.slice 9,1,24,[.nils],some (.lst .str)⟩),
 (23,⟨.slice 49,1,24,[.nils],some (.lst (.st .shape))⟩),
 (24,⟨.slice 26,1,24,[.nils],some (.lst (.st .term))⟩),
 (25,⟨.strct false [(0,3),(1,9),(2,9),(3,3),(4,22),(5,22),(6,23),(7,24),(8,3)],9,152,[.int .i64 0,.str [],.str [],.int .i64 0,.nils,.nils,.nils,.nils,.int .i64 0],none⟩),
 (26,⟨.strct false [(0,3),(1,9),(2,9),(3,3),(4,22),(5,22),(6,23),(7,24),(8,3)],9,152,[.int .i64 0,.str [],.str [],.int .i64 0,.nils,.nils,.nils,.nils,.int .i64 0],some (.st .term)⟩),
 (27,⟨.slice 51,1,24,[.nils],some (.lst (.st .bind))⟩),
 (28,r1),
 (29,r1),
 (30,r1),
 (31,⟨.slice 63,1,24,[.nils],some (.lst (.st .chunk))⟩),
 (32,r2),
 (34,r1),
 (36,r1),
 (37,r1),
 (38,r1),
 (39,r1),
 (41,r1),
 (43,r1),
 (44,r1),
 (45,r1),
 (46,r1),
 (47,r1),
 (48,⟨.strct false [(0,3),(1,9),(2,9),(3,22),(4,23)],5,88,[.int .i64 0,.str [],.str [],.nils,.nils],none⟩),
 (49,⟨.strct false [(0,3),(1,9),(2,9),(3,22),(4,23)],5,88,[.int .i64 0,.str [],.str [],.nils,.nils],some (.st .shape)⟩),
 (50,⟨.strct false [(0,9),(1,9),(2,49)],7,120,[.str [],.str [],.int .i64 0,.str [],.str [],.nils,.nils],none⟩),
 (51,⟨.strct false [(0,9),(1,9),(2,49)],7,120,[.str [],.str [],.int .i64 0,.str [],.str [],.nils,.nils],some (.st .bind)⟩),
 (52,r1),
 (53,r1),
 (54,⟨.strct true [(0,32),(1,3)],2,16,[.int .i64 0,.int .i64 0],none⟩),
 (55,⟨.strct true [(0,32),(1,3)],2,16,[.int .i64 0,.int .i64 0],some (.st .fault)⟩),
 (57,r1),
 (58,⟨.slice 3,1,24,[.nils],some (.lst (.int .i64))⟩),
 (59,⟨.strct false [(0,3),(1,3),(2,9),(3,22),(4,58),(5,3)],6,88,[.int .i64 0,.int .i64 0,.str [],.nils,.nils,.int .i64 0],none⟩),
 (60,⟨.strct false [(0,3),(1,3),(2,9),(3,22),(4,58),(5,3)],6,88,[.int .i64 0,.int .i64 0,.str [],.nils,.nils,.int .i64 0],some (.st .op)⟩),
 (61,⟨.slice 60,1,24,[.nils],some (.lst (.st .op))⟩),
 (62,⟨.strct false [(0,3),(1,61)],2,32,[.int .i64 0,.nils],none⟩),
 (63,⟨.strct false [(0,3),(1,61)],2,32,[.int .i64 0,.nils],some (.st .chunk)⟩),
 (64,r1),
 (65,⟨.ptr 71,1,8,[.nilp],none⟩),
 (66,⟨.ptr 31,1,8,[.nilp],none⟩),
 (67,r67),
 (68,r67),
 (69,⟨.slice 73,1,24,[.nils],some (.lst (.st .nm))⟩),
 (70,r70),
 (71,r70),
 (72,⟨.strct true [(0,9),(1,9)],2,32,[.str [],.str []],none⟩),
 (73,⟨.strct true [(0,9),(1,9)],2,32,[.str [],.str []],some (.st .nm)⟩),
 (74,r1),
 (75,⟨.ptr 26,1,8,[.nilp],none⟩),
 (76,r1),
 (77,r1),
 (78,r1),
 (79,r1),
 (80,r12),
 (81,r1),
 (82,r1),
 (83,r1),
 (84,r1),
 (85,r1),
 (86,⟨.ptr 88,1,8,[.nilp],none⟩),
 (87,r87),
 (88,r87),
 (89,r1),
 (90,r1),
 (92,r1),
 (94,r1),
 (95,⟨.ptr 98,1,8,[.nilp],none⟩),
 (96,⟨.slice 100,1,24,[.nils],some (.lst (.st .stt))⟩),
 (97,r97),
 (98,r97),
 (99,⟨.strct true [(0,3),(1,3)],2,16,[.int .i64 0,.int .i64 0],none⟩),
 (100,⟨.strct true [(0,3),(1,3)],2,16,[.int .i64 0,.int .i64 0],some (.st .stt)⟩),
 (101,r1),
 (102,⟨.slice 162,1,24,[.nils],some (.lst (.st .token))⟩),
 (104,r1),
 (106,r1),
 (107,r1),
 (109,r1),
 (110,r1),
 (111,r1),
 (112,r1),
 (113,r1),
 (114,r1),
 (115,r1),
 (117,r1),
 (118,r1),
 (119,r1),
 (120,r1),
 (121,r1),
 (122,⟨.slice 5,1,24,[.nils],some (.lst (.int .u8))⟩),
 (123,r1),
 (124,r12),
 (125,⟨.ptr 127,1,8,[.nilp],none⟩),
 (126,r126),
 (127,r126),
 (128,r20),
 (129,r20),
 (131,r1),
 (132,r1),
 (133,⟨.slice 135,1,24,[.nils],some (.lst (.st .rstt))⟩),
 (134,⟨.strct true [(0,4),(1,3),(2,3)],3,24,[.bool false,.int .i64 0,.int .i64 0],none⟩),
 (135,⟨.strct true [(0,4),(1,3),(2,3)],3,24,[.bool false,.int .i64 0,.int .i64 0],some (.st .rstt)⟩),
 (136,r1),
 (138,r1),
 (140,r1),
 (142,r1),
 (144,r1),
 (146,r1),
 (148,r1),
 (149,r1),
 (150,r1),
 (151,r1),
 (152,⟨.ptr 156,1,8,[.nilp],none⟩),
 (153,JO),
 (154,JO),
 (155,JP),
 (156,JP),
 (157,r1),
 (158,r1),
 (159,r1),
 (160,r1),
 (161,⟨.strct true [(0,3),(1,9),(2,3)],3,32,[.int .i64 0,.str [],.int .i64 0],none⟩),
 (162,⟨.strct true [(0,3),(1,9),(2,3)],3,32,[.int .i64 0,.str [],.int .i64 0],some (.st .token)⟩),
 (163,⟨.ptr 168,1,8,[.nilp],none⟩),
 (164,r1),
 (165,⟨.strct false [(0,102),(1,3),(2,55)],4,48,[.nils,.int .i64 0,.int .i64 0,.int .i64 0],none⟩),
 (166,⟨.strct false [(0,102),(1,3),(2,55)],4,48,[.nils,.int .i64 0,.int .i64 0,.int .i64 0],some (.st .par)⟩),
 (167,⟨.strct false [(0,166)],4,48,[.nils,.int .i64 0,.int .i64 0,.int .i64 0],none⟩),
 (168,⟨.strct false [(0,166)],4,48,[.nils,.int .i64 0,.int .i64 0,.int .i64 0],some (.st .par)⟩),
 (169,r1),
 (170,r1),
 (171,r1),
 (172,r1),
 (173,⟨.ptr 68,1,8,[.nilp],none⟩),
 (174,r1),
 (175,r1),
 (176,⟨.ptr 5,1,8,[.nilp],none⟩),
 (178,r1),
 (179,r1),
 (180,r1),
 (181,r1),
 (182,⟨.ptr 154,1,8,[.nilp],none⟩),
 (184,r1),
 (185,r1),
 (186,r1),
 (187,r1),
 (188,⟨.strct true [(0,3),(1,3),(2,3),(3,9)],4,40,[.int .i64 0,.int .i64 0,.int .i64 0,.str []],none⟩),
 (189,⟨.strct true [(0,3),(1,3),(2,3),(3,9)],4,40,[.int .i64 0,.int .i64 0,.int .i64 0,.str []],some (.st .version)⟩),
 (191,r1),
 (193,r1),
 (194,⟨.ptr 166,1,8,[.nilp],none⟩),
 (195,r1),
 (196,r1),
 (197,r1),
 (198,r1),
 (199,EB),
 (200,EB),
 (201,r1),
 (202,r1),
 (203,r1),
 (204,r1),
 (205,r1),
 (206,r1),
 (207,r1),
 (209,r1),
 (210,r1),
 (211,r1),
 (212,r1),
 (213,r1),
 (214,r1),
 (216,r1),
 (217,r1),
 (221,r1),
 (222,r1),
 (223,⟨.ptr 219,1,8,[.nilp],none⟩),
 (225,r1),
 (226,r1),
 (227,⟨.arr 3 3,3,24,[.int .i64 0,.int .i64 0,.int .i64 0],none⟩),
 (228,r1),
 (229,r1),
 (230,r1),
 (231,r1),
 (232,r1),
 (233,r1),
 (234,r1),
 (235,r1),
 (236,r1),
 (237,r1),
 (238,r1),
 (239,r1),
 (240,r1),
 (241,r1),
 (242,r1),
 (243,r1),
 (244,r1),
 (245,r1),
 (246,r1),
 (247,r1),
 (249,r249),
 (250,r249),
 (252,r1),
 (253,r1),
 (254,r1),
 (255,r1),
 (256,r1),
 (257,r1),
 (258,r1),
 (259,r1),
 (260,r1),
 (261,r2),
 (263,r1),
 (264,⟨.ptr 286,1,8,[.nilp],none⟩),
 (265,r1),
 (266,r1),
 (267,EC),
 (268,EC),
 (270,r1),
 (271,r1),
 (272,r2),
 (274,r1),
 (275,r1),
 (276,r1),
 (278,r1),
 (279,r1),
 (280,⟨.int .u32,1,4,[.int .u32 0],some (.int .u32)⟩),
 (281,r1),
 (282,r1),
 (284,r1),
 (285,r285),
 (286,r285),
 (287,r1),
 (288,r1),
 (289,r12),
 (290,r1),
 (291,r1),
 (292,r1),
 (293,⟨.ptr 3,1,8,[.nilp],none⟩),
 (294,r1),
 (296,r1),
 (297,r1),
 (298,⟨.ptr 300,1,8,[.nilp],none⟩),
 (299,r299),
 (300,r299),
 (301,⟨.ptr 289,1,8,[.nilp],none⟩),
 (302,r1),
 (303,r1),
 (305,r1),
 (307,r1),
 (308,r1),
 (313,r313),
 (314,r313),
 (318,r5),
 (319,r5),
 (320,r1),
 (321,r21),
 (322,r21),
 (323,r323),
 (324,r323)]
theorem tk{t:Nat}{r:TR}(h1:(Tryz.prog.info? t).map (fun i=>(i.size,i.bytes,i.zero.map fun z=>z.cells.toList.map bV))=some (r.size,r.bytes,some r.zero):=by kernel_rfl)
 (h2:(Tryz.prog.underlying t).map (aG Tryz.prog r.ti)=some true:=by kernel_rfl)
 (h3:(fT r.zero r.size&&(Nat.beq r.size 0||Nat.blt 0 r.bytes)&&(match r.ty with | some τ=>Nat.beq (ab τ) r.size&&(IB τ ==r.isAgg) | none=>true))=true:=by kernel_rfl)
 (h8:(Tryz.prog.info? t).map (fun i=>i.zero.map fun z=>zA z ==r.isAgg)=some (some true):=by kernel_rfl)
 (h9:(match r.ti with|.strct true _=>!Tryz.prog.stoodInHeld t&&!Tryz.prog.eqGuardType Tryz.prog.depth t|_=>true)=true:=by kernel_rfl):TRok Tryz.prog t r:=TRok.mk' h1 h2 h3 h8 h9
theorem Ht:aQ Tryz.prog tbl:=
 .cons tk (.cons tk (.cons tk (.cons tk (.cons tk (.cons tk (.cons tk (.cons tk (.cons tk (.cons tk (.cons tk (.cons tk (.cons tk (.cons tk (.cons tk (.cons tk (.cons tk (.cons tk (.cons tk (.cons tk (.cons tk (.cons tk (.cons tk (.cons tk (.cons tk (.cons tk (.cons tk (.cons tk (.cons tk (.cons tk (.cons tk (.cons tk (.cons tk (.cons tk (.cons tk (.cons tk (.cons tk (.cons tk (.cons tk (.cons tk (.cons tk (.cons tk (.cons tk (.cons tk (.cons tk (.cons tk (.cons tk (.cons tk (.cons tk (.cons tk (.cons tk (.cons tk (.cons tk (.cons tk (.cons tk (.cons tk (.cons tk (.cons tk (.cons tk (.cons tk (.cons tk (.cons tk (.cons tk (.cons tk (.cons tk (.cons tk (.cons tk (.cons tk (.cons tk (.cons tk (.cons tk (.cons tk (.cons tk (.cons tk (.cons tk (.cons tk (.cons tk (.cons tk (.cons tk (.cons tk (.cons tk (.cons tk (.cons tk (.cons tk (.cons tk (.cons tk (.cons tk (.cons tk (.cons tk (.cons tk (.cons tk (.cons tk (.cons tk (.cons tk (.cons tk (.cons tk (.cons tk (.cons tk (.cons tk (.cons tk (.cons tk (.cons tk (.cons tk (.cons tk (.cons tk (.cons tk (.cons tk (.cons tk (.cons tk (.cons tk (.cons tk (.cons tk (.cons tk (.cons tk (.cons tk (.cons tk (.cons tk (.cons tk (.cons tk (.cons tk (.cons tk (.cons tk (.cons tk (.cons tk (.cons tk (.cons tk (.cons tk (.cons tk (.cons tk (.cons tk (.cons tk (.cons tk (.cons tk (.cons tk (.cons tk (.cons tk (.cons tk (.cons tk (.cons tk (.cons tk (.cons tk (.cons tk (.cons tk (.cons tk (.cons tk (.cons tk (.cons tk (.cons tk (.cons tk (.cons tk (.cons tk (.cons tk (.cons tk (.cons tk (.cons tk (.cons tk (.cons tk (.cons tk (.cons tk (.cons tk (.cons tk (.cons tk (.cons tk (.cons tk (.cons tk (.cons tk (.cons tk (.cons tk (.cons tk (.cons tk (.cons tk (.cons tk (.cons tk (.cons tk (.cons tk (.cons tk (.cons tk (.cons tk (.cons tk (.cons tk (.cons tk (.cons tk (.cons tk (.cons tk (.cons tk (.cons tk (.cons tk (.cons tk (.cons tk (.cons tk (.cons tk (.cons tk (.cons tk (.cons tk (.cons tk (.cons tk (.cons tk (.cons tk (.cons tk (.cons tk (.cons tk (.cons tk (.cons tk (.cons tk (.cons tk (.cons tk (.cons tk (.cons tk (.cons tk (.cons tk (.cons tk (.cons tk (.cons tk (.cons tk (.cons tk (.cons tk (.cons tk (.cons tk (.cons tk (.cons tk (.cons tk (.cons tk (.cons tk (.cons tk (.cons tk (.cons tk (.cons tk (.cons tk (.cons tk (.cons tk (.cons tk (.cons tk (.cons tk (.cons tk (.cons tk (.cons tk (.cons tk (.cons tk (.cons tk (.cons tk (.cons tk (.cons tk (.cons tk (.cons tk (.cons tk (.cons tk (.cons tk (.cons tk (.cons tk (.cons tk (.cons tk (.cons tk (.cons tk (.cons tk (.cons tk (.cons tk (.cons tk (.cons tk (.cons tk (.cons tk (.cons tk (.cons tk (.cons tk (.cons tk (.cons tk (.cons tk (.cons tk (.cons tk (.cons tk (.cons tk (.cons tk (.cons tk (.cons tk (.cons tk (.cons tk (.cons tk (.cons tk (.cons tk (.cons tk (.nil)))))))))))))))))))))))))))))))))))))))))))))))))))))))))))))))))))))))))))))))))))))))))))))))))))))))))))))))))))))))))))))))))))))))))))))))))))))))))))))))))))))))))))))))))))))))))))))))))))))))))))))))))))))))))))))))))))))))))))))))))))))))))))))))))))))))))))))))))))))))
theorem mixed:Tryz.prog.follows .mixedOrders=true:=by kernel_rfl
end Go.AL.Seat
end
section
namespace Go.Proofs
open Go.Shelf Go.AL
def Tryz.wren:Go.Shelf.Ren:=⟨fun|166=>61|240=>91|169=>62|n=>n,fun|70=>125|9=>9|0=>0|72=>127|37=>122|127=>176|3=>3|5=>5|75=>129|n=>n,fun n=>n⟩
theorem Tryz.wl:WL Tryz.prog Tryz.wren:={
 mixed:=by kernel_rfl
 f166:=Xt Tryz.func61
 t3:=Tryz.underlying3
 a3:=Tryz.isAgg3
 z3:=Tryz.sizeOf3
 v3:=Tryz.zeroValue3
 t9:=Tryz.underlying9
 a9:=Tryz.isAgg9
 z9:=Tryz.sizeOf9
 v9:=Tryz.zeroValue9
 t37:=Tryz.underlying122
 a37:=Tryz.isAgg122
 z37:=Tryz.sizeOf122
 v37:=Tryz.zeroValue122
 t70:=Tryz.underlying125
 a70:=Tryz.isAgg125
 z70:=Tryz.sizeOf125
 v70:=Tryz.zeroValue125
 t72:=Tryz.underlying127
 a72:=Tryz.isAgg127
 z72:=Tryz.sizeOf127
 v72:=Tryz.zeroValue127}
theorem Tryz.bx:Builder.Extra Tryz.prog Tryz.wren:={
 sizeBuilder:=by kernel_rfl
 liesBuilder:=by kernel_rfl
 t5:=Tryz.underlying5
 a5:=Tryz.isAgg5
 z5:=Tryz.sizeOf5
 v5:=Tryz.zeroValue5
 infoByte:=by kernel_rfl
 cellsByte:=by kernel_rfl
 sizeByte:=by kernel_rfl
 neB5:=by decide}
set_option maxHeartbeats 1000000 in
set_option maxRecDepth 100000 in
theorem Tryz.cc:CC Tryz.prog Tryz.wren:=by
 obtain⟨j,hj,hjs⟩:=MM.1 Tryz.bx.sizeBuilder;have hj':Tryz.prog.info? 127=some j:=hj;have lies:=Tryz.bx.liesBuilder;refine⟨enters_of Tryz.func91 (by kernel_rfl) rfl,fun b w h0=>?_,fun b w h0 hsh hfz=>?_⟩
 ·show Calls Tryz.prog 91 _ _ _
  go_enter Tryz.func91,Tryz.ntmps91
  go_wp2
  rw[Lib.run_neq_ptr_same w _ Tryz.underlying125 hj']
  go_wp2
  go_end0
  exact⟨rfl,rfl⟩
 ·show Calls Tryz.prog 91 _ _ _
  go_enter Tryz.func91,Tryz.ntmps91
  go_wp2
  rw[Lib.run_to_unsafe w ⟨b,0,none⟩ Tryz.underlying125 Tryz.underlying208 hj' (by rw[hjs];decide) hsh (Nat.zero_lt_succ 1)];simp only[Result.andThen];rw[Oper.upon_value]
  go_wp2
  rw[run_callFunc_extern Tryz.func137 (by kernel_rfl) (by kernel_rfl) (by kernel_rfl) (e:=Extern.AbiNoEscape.same) (by kernel_rfl)];rw[Lib.run_noEscape];simp only[Result.andThen];rw[Oper.upon_value]
  go_wp2
  rw[Lib.run_from_unsafe w ⟨b,0,none⟩ Tryz.underlying208 Tryz.underlying125 hj' hsh lies];simp only[Result.andThen];rw[Oper.upon_value]
  go_wp2
  go_end0
  exact⟨rfl,rfl⟩
end Go.Proofs
end
section
namespace Go.Proofs
open Go.Shelf
def Tryz.lays169_ren:Go.Shelf.Ren:=⟨fun|169=>62|n=>n,fun|70=>125|9=>9|0=>0|72=>127|37=>122|127=>176|3=>3|5=>5|n=>n,fun|n=>n⟩
theorem Tryz.lays169:Go.Proofs.Lays.n169 Tryz.prog Tryz.lays169_ren:={
 mixed:=by kernel_rfl
 f169:=Xt Tryz.func62
 t0:=Tryz.underlying0
 a0:=Tryz.isAgg0
 z0:=Tryz.sizeOf0
 v0:=Tryz.zeroValue0
 t3:=Tryz.underlying3
 a3:=Tryz.isAgg3
 z3:=Tryz.sizeOf3
 v3:=Tryz.zeroValue3
 t9:=Tryz.underlying9
 a9:=Tryz.isAgg9
 z9:=Tryz.sizeOf9
 v9:=Tryz.zeroValue9
 t37:=Tryz.underlying122
 a37:=Tryz.isAgg122
 z37:=Tryz.sizeOf122
 v37:=Tryz.zeroValue122
 t70:=Tryz.underlying125
 a70:=Tryz.isAgg125
 z70:=Tryz.sizeOf125
 v70:=Tryz.zeroValue125
 t72:=Tryz.underlying127
 a72:=Tryz.isAgg127
 z72:=Tryz.sizeOf127
 v72:=Tryz.zeroValue127
 t127:=Tryz.underlying176
 a127:=Tryz.isAgg176
 z127:=Tryz.sizeOf176
 v127:=Tryz.zeroValue176}
def Tryz.lays129_ren:Go.Shelf.Ren:=⟨fun|129=>90|n=>n,fun|53=>80|3=>3|4=>4|46=>124|5=>5|9=>9|n=>n,fun|n=>n⟩
theorem Tryz.lays129:Go.Proofs.Lays.n129 Tryz.prog Tryz.lays129_ren:={
 mixed:=by kernel_rfl
 f129:=Xt Tryz.func90
 t3:=Tryz.underlying3
 a3:=Tryz.isAgg3
 z3:=Tryz.sizeOf3
 v3:=Tryz.zeroValue3
 t4:=Tryz.underlying4
 a4:=Tryz.isAgg4
 z4:=Tryz.sizeOf4
 v4:=Tryz.zeroValue4
 t5:=Tryz.underlying5
 a5:=Tryz.isAgg5
 z5:=Tryz.sizeOf5
 v5:=Tryz.zeroValue5
 t9:=Tryz.underlying9
 a9:=Tryz.isAgg9
 z9:=Tryz.sizeOf9
 v9:=Tryz.zeroValue9
 t46:=Tryz.underlying124
 a46:=Tryz.isAgg124
 z46:=Tryz.sizeOf124
 v46:=Tryz.zeroValue124
 t53:=Tryz.underlying80
 a53:=Tryz.isAgg80
 z53:=Tryz.sizeOf80
 v53:=Tryz.zeroValue80}
end Go.Proofs
end
section
namespace Go.AL
variable [Tabs]
open Go.Proofs Go.Shelf Go.RowKit Go.Pd
variable {P:Program} {ρ:Ren}
theorem yq{f:Nat}(L:Lays.n129 P ρ)(hf:ρ.f 129=f)(he:au P f):ag P f (p1 (.int .u64) fun n=>.ret (.int .i64 (nI n))):=by subst hf;refine aW he fun n _ ho=>?_;refine eF fun w pub vs ht hv=>?_;obtain⟨v,rfl,hu⟩:=VL.one_inv hv;obtain⟨rfl,h0,h1⟩:=(show V _ (.int .u64 n) v from hu).int_inv;have h0:(0:Int)<=n:=h0;have h1:n<=18446744073709551615:=h1;refine(Any.bits_Len64 L n w h0 h1).mono ?_;rintro en w' ⟨rfl,rfl⟩;have hb:=vV n;unfold nI at hb⊢;exact⟨⟨_,rfl,fun Ω=>.int _ _ (by show(-9223372036854775808:Int)<=_;omega) (by show _<=(9223372036854775807:Int);omega)⟩,Below.refl _ _⟩
end Go.AL
end
