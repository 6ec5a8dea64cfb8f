/- Plain facts. The layer: Go code as conditions, and that they are sound. What the functions' conditions say, proved. No condition. -/
import Derived.Test.YtalkpiobgooadaaGreatDoorT04
import Derived.Deep.RegionHeld3
import Derived.Handy
import Derived.KernelRfl
import Derived.Lib.AppendIntMem
import Derived.Lib.AtoiErrMem
import Derived.Lib.Bytealg
import Derived.Lib.DecodeN
import Derived.Lib.ItoaNum
import Derived.Shelf.SlSortCmp.NoneTotal
import Derived.Shelf.SlSortCmp.QuietGrown
import Derived.Shelf.SlSortCmp.WholeK
import Derived.Shelf.Slices.Clone
import Derived.Shelf.Small.Strs
import Derived.Shelf.Strconv.Atoi
import Derived.Shelf.Strconv.Itoa3
import Derived.Shelf.Strconv.Itoa4
import Derived.Shelf.Strings.Cut
import Derived.Shelf.Strings.OnBuilder
import Derived.Shelf.Strings.Search3
import Derived.Shelf.Strings.SlTrimAscii
import Derived.Shelf.Strings.Split
import Derived.Shelf.Unicode.DecodeAny
import Derived.Shelf.Unicode.ValidAny
import Derived.Sort.Walk0
import Derived.Test.YtalkpiobgooadaaGreatDoorProg
set_option linter.all false
set_option maxRecDepth 100000
section
namespace Go.AL
open Go.Proofs Go.Shelf Go.RowKit Go.Pd
theorem qe:∀(l:Str)(acc:Nat),(∀c∈l,48<=c.toNat/\c.toNat<=57)->∃m:Nat,Lib.decFrom acc l=some m/\(m:Int)=l.foldl (fun n c=>10 *n+((c.toNat:Int)-48)) (acc:Int)/\m<(acc+1) *10 ^ l.length
 |[],acc,_=>⟨acc,rfl,rfl,by simp⟩
 |c::r,acc,h=>by
  obtain⟨h1,h2⟩:=h c (Nn ..);obtain⟨m,e1,e2,e3⟩:=qe r (acc *10+(c.toNat-48)) (fun d hd=>h d (N4 _ hd));refine⟨m,?_,?_,?_⟩
  ·simp only[Lib.decFrom,Lib.digitVal,h1,h2,and_self,NU];exact e1
  ·rw[e2,PV];congr 1;omega
  ·refine Qa e3 ?_;rw[Ni,Nat.pow_succ,<-Nat.mul_assoc,Nat.mul_right_comm];exact Nq _ (by omega)
theorem Hg{t:Str}(h:sF t):Lib.atoi t=some (mN t)/\0<=mN t/\mN t<1000000000000000:=by
 obtain⟨h1,h2,h3⟩:=h;obtain⟨m,e1,e2,e3⟩:=qe t 0 h3;have e4:(m:Int)=mN t:=e2;refine⟨?_,by omega,?_⟩
 ·cases t with
  |nil=>exact absurd rfl h1
  |cons c r=>
   have hc:=h3 c (Nn ..);have n1:(c ==45)=false:=by rw[OM];rintro rfl;simp at hc
   have n2:(c ==43)=false:=by rw[OM];rintro rfl;simp at hc
   simp only[Lib.atoi,n1,n2,O5,Nt,Lib.decNat,List.isEmpty_cons,e1,O6,e4]
 ·have:m<10 ^ t.length:=by simpa using e3
  have h10:10 ^ t.length<=10 ^ 15:=Nat.pow_le_pow_right (by decide) h2;have:m<1000000000000000:=Qa this h10;omega
variable [Tabs] {P:Program} {ρ:Ren}
theorem After.below{w w':World}{pub:Nat->Nat->Prop}{e:Nat->Option CObj}(hp:kB w pub)(hd:∀id,e id=none)(hb:Below w.heap.size w w'):After w pub e (aj (bO [] [])) w' pub e where
 os:=hb.os
 tape:=hb.tape
 output:=hb.output
 size:=hb.size
 block b h _:=hb.block b h
 cell b o h _:=ai (hb.block b h) o
 kind b h _:=⟨aR (hb.block b h),fun o=>aK (hb.block b h) o⟩
 ext:=⟨fun _ c h=>⟨c,h,CLe.refl c⟩,fun _ _ h=>h,fun b o h=>by obtain⟨v,hv⟩:=hp b o h;exact ai (hb.block b (aS hv)) o⟩
 fresh b o h:=.inl h
 ok b o h:=by obtain⟨v,hv⟩:=hp b o h;exact⟨v,(ai (hb.block b (aS hv)) o).trans hv⟩
 slots id o h:=by simp[bO,aN,aG]at h
 dom id _:=hd id
 inj i j c d b o h:=by rw[hd i]at h;cases h
theorem BH(L:Lays.n172 P ρ)(t:Str)(h:sF t):an P (ρ.f 172) [.str t] [] ⟨some (sF t),none,.tup [.int .i64 (mN t),.nilif],[]⟩:=by intro w pub e vs hp ht hv hs hd hi;obtain⟨v,rfl,h1⟩:=VL.one_inv hv;obtain⟨rfl,hl⟩:=h1.str_inv;obtain⟨a1,a2,a3⟩:=Hg h;refine(Any.strconv_Atoi L ⟨t.toArray⟩ (mN t) (by have:=h.2.1;show t.toArray.size<=18;simp;omega) (by simpa using a1) w).mono ?_;rintro en w' ⟨rfl,ty,rfl⟩;refine⟨pub,e,?_⟩;refine And.intro (fun b pv u h=>by cases h) (And.intro ?_ (After.below hp (fun id=>hd id rfl) (Lib.bytesWorld_below w _ _)));have b1:inR .i64 (mN t):=aD (by omega) (by omega);exact V.of_tup (VL.cons (.int _ _ b1.1 b1.2) (VL.cons .nilif .nil))
def JP:Pat:=p1 .str fun t=>⟨some (sF t),none,.tup [.int .i64 (mN t),.nilif],[]⟩
theorem BI{f:Nat}(L:Lays.n172 P ρ)(hf:ρ.f 172=f)(he:aq P f):ag P f JP:=by subst hf;exact bp he fun t _ ho=>BH L t (ho _ rfl)
end Go.AL
end
section
namespace Go.AL.Seat
open Go Go.AL Go.Proofs Go.Shelf Go.Pd
variable [Tabs]
theorem Mk:SortL Tryz.prog Tryz.sorted200_ren:=
 ⟨Tryz.sorted200,⟨fun blk off cap ss W hH hblk hsz=>callsIn_wide.2 (Any.slices_Sort_string Tryz.lays190 blk off cap ss W hH hblk hsz),fun p cap W=>callsIn_wide.2 (Any.slices_Sort_string_none Tryz.lays190 p cap W)⟩,enters_of Tryz.func200 (by kernel_rfl) rfl⟩
theorem ke:ag Tryz.prog 130 (nv 201):=
 tW Mk rfl (enters_of Tryz.func201 (by kernel_rfl) rfl) Tryz.valuesL (aq.mk' Tryz.func130 (by kernel_rfl))
theorem iY:ag Tryz.prog 132 nw:=tX Tryz.lays194 rfl (aq.mk' Tryz.func132 (by kernel_rfl))
theorem Hh:ag Tryz.prog 172 (p1 .str fun t=>⟨some (sF t),none,.tup [.int .i64 (mN t),.nilif],[]⟩):=BI Tryz.lays172 rfl (aq.mk' Tryz.func172 (by kernel_rfl))
end Go.AL.Seat
end
section
namespace Go.Pd
open Go.AL
mutual
def szT:Trm->Nat
 |⟨_,_,_,_,_,_,_,ps,_⟩=>szTL ps+1
def szTL:List Trm->Nat
 |[]=>0
 |p::r=>szT p+szTL r
end
mutual
def countT:Trm->Int->Int×Int
 |⟨_,_,_,_,_,_,_,ps,_⟩,m=>((countL ps m 1 0).1,(countL ps m 1 0).2+1)
def countL:List Trm->Int->Int->Int->Int×Int
 |[],_,n,d=>(n,d)
 |p::r,m,n,d=>if m<n then(n,d)else countL r m (n+(countT p (m-n)).1) (max d (countT p (m-n)).2)
end
theorem EU(t:Trm)(m:Int):countT t m=((countL t.parts m 1 0).1,(countL t.parts m 1 0).2+1):=by cases t;rw[countT]
theorem nA(t:Trm):szT t=szTL t.parts+1:=by cases t;rw[szT]
theorem kf(t:Trm):1<=szT t:=by rw[nA];omega
mutual
theorem countT_bound:∀(t:Trm)(m:Int),0<=m->1<=(countT t m).1/\(countT t m).1<=m+1/\1<=(countT t m).2/\(countT t m).2<=(countT t m).1
 |⟨k,g,q,z,ns,vs,ss,ps,pp⟩,m,hm=>by have h:=countL_bound ps m 1 0 (by omega) (by omega) (by omega) (by omega);rw[countT];exact⟨h.1,h.2.1,by show 1<=(countL ps m 1 0).2+1;omega,by show(countL ps m 1 0).2+1<=_;omega⟩
theorem countL_bound:∀(l:List Trm)(m n d:Int),1<=n->n<=m+1->0<=d->d+1<=n->1<=(countL l m n d).1/\(countL l m n d).1<=m+1/\0<=(countL l m n d).2/\(countL l m n d).2+1<=(countL l m n d).1
 |[],m,n,d,h1,h2,h3,h4=>by rw[countL];exact⟨h1,h2,h3,h4⟩
 |p::r,m,n,d,h1,h2,h3,h4=>by
  rw[countL];split
  ·exact⟨h1,h2,h3,h4⟩
  ·have h:=countT_bound p (m-n) (by omega);exact countL_bound r m _ _ (by omega) (by omega) (by omega) (by omega)
end
theorem ml:∀{l:List Trm} {t:Trm},t∈l->szT t<=szTL l
 |p::r,t,h=>by
  rw[szTL];rcases N9.1 h with e|e
  ·subst e;omega
  ·have:=ml e;omega
def aF{α:Type}(F:α->Bool):List α->Nat->Int
 |[],_=>-1
 |x::r,k=>if F x=true then aF F r (k+1)else(k:Int)
theorem gN{α:Type}(F:α->Bool):∀(l:List α)(k:Nat),decide (0<=aF F l k)=!l.all F
 |[],_=>rfl
 |x::r,k=>by
  rw[aF,Ny];by_cases h:F x=true
  ·rw[MT h,gN F r (k+1),h];rfl
  ·rw[MS h];have:F x=false:=by simpa using h
   rw[this];simp
def aI(s:Shape):Bool:=!decide (s.kind=10)
theorem sG(f:Shape->Bool):∀l:List Shape,allL f l=l.all (allS f)
 |[]=>rfl
 |p::r=>by rw[Ny,<-sG f r];rfl
end Go.Pd
end
section
namespace Go.AL
variable [Tabs]
section
variable {P:Program} {f:Nat}
def pfc(τ:Ty)(n g:Nat)(F:den τ->Ans):Pat
 |[a,.fn f [.ptr 900 0]],[(900,.box (.fn h []))]=>(match Nat.beq f n,Nat.beq h g,arg τ a with|true,true,some a=>some (F a)|_,_,_=>none)
 |_,_=>none
theorem gR{τ:Ty}{n g:Nat}{F:den τ->Ans}(he:aq P f)(h:∀x,Wf τ x->(∀q,(F x).ob=some q->q)->an P f [inj τ x,.fn n [.ptr 900 0]] [(900,.box (.fn g []))] (F x)):ag P f (pfc τ n g F):=by
 intro args S A hA ho _;unfold pfc at hA;split at hA
 ·split at hA
  ·rename_i hb hc hx;simp only[Xs]at hA;subst hA;have e:=Ng hb;subst e;have e:=Ng hc;subst e;exact⟨he,an.args (.cons (Rd.arg hx) (.cons (Rd.refl _) .nil)) (an.wf fun hw=>h _ hw.one ho)⟩
  ·cases hA
 ·cases hA
def pcl(τ:Ty)(g:Nat)(F:den τ->Ans):Pat
 |[a,.ptr 900 0],[(900,.box (.fn h []))]=>(match Nat.beq h g,arg τ a with|true,some a=>some (F a)|_,_=>none)
 |_,_=>none
theorem pj{τ:Ty}{g:Nat}{F:den τ->Ans}(he:aq P f)(h:∀x,Wf τ x->(∀q,(F x).ob=some q->q)->an P f [inj τ x,.ptr 900 0] [(900,.box (.fn g []))] (F x)):ag P f (pcl τ g F):=by
 intro args S A hA ho _;unfold pcl at hA;split at hA
 ·split at hA
  ·rename_i hc hx;simp only[Xs]at hA;subst hA;have e:=Ng hc;subst e;exact⟨he,an.args (.cons (Rd.arg hx) (.cons (Rd.refl _) .nil)) (an.wf fun hw=>h _ hw.one ho)⟩
  ·cases hA
 ·cases hA
end
end Go.AL
end
section
namespace Go.Pd
open Go.AL
def cut(s:Str)(a b:Int):Str:=(s.take b.toNat).drop a.toNat
def qf(r:Str)(k:Nat):Bool:=decide (k<r.length)&&decide ((r.getD k 0).toNat/64=2)
def qp(r:Str)(k:Nat):Nat:=(r.getD k 0).toNat%64
def qM(c:Nat):Bool:=decide (c<1114112)&&!(decide (55296<=c)&&decide (c<57344))
def wD:Str->Nat
 |[]=>0
 |b::r=>
  if b.toNat<128 then 1
  else if b.toNat/32=6/\qf r 0=true then(if 128<=b.toNat%32 *64+qp r 0 then 2 else 0)
  else if b.toNat/16=14/\qf r 0=true/\qf r 1=true then
   (if 2048<=b.toNat%16 *4096+qp r 0 *64+qp r 1/\qM (b.toNat%16 *4096+qp r 0 *64+qp r 1)=true then 3 else 0)
  else if b.toNat/8=30/\qf r 0=true/\qf r 1=true/\qf r 2=true then
   (if 65536<=b.toNat%8 *262144+qp r 0 *4096+qp r 1 *64+qp r 2/\qM (b.toNat%8 *262144+qp r 0 *4096+qp r 1 *64+qp r 2)=true then 4 else 0)
  else 0
def DJ:Nat->Str->Nat->Option Nat
 |0,_,_=>none
 |f+1,x,k=>if x=[]then none else if wD x=0 then some k else DJ f (x.drop (wD x)) (k+wD x)
def sH(x:Str):Option Nat:=DJ x.length x 0
structure SC where
 pos:Int
 out:List Tokn
 err:Int
 fat:Int
def splitB(c:UInt8):Str->List Str
 |[]=>[[]]
 |b::r=>if b=c then[]::splitB c r else match splitB c r with|[]=>[[b]]|p::ps=>(b::p)::ps
def bZ(s:Str):Bool:=!decide (s=[])&&s.all fun c=>gQ (bI c)
def iM(c:Int):Bool:=gQ c||cW c||df c||decide (c=45)
def fR(s:Str):Bool:=!decide (s=[])&&!(bZ s&&decide (bI (s.getD 0 0)=48)&&!decide (s=[48]))&&s.all fun c=>iM (bI c)
def dx(v:Vers):Int:=
 if v.major<0∨999999<v.major∨v.minor<0∨999999<v.minor∨v.patch<0∨999999<v.patch then 40
 else if 24<v.pre.length then 40 else if v.pre=[]then 0 else if(splitB 46 v.pre).all fR=true then 0 else 40
def j7(s:Str):Str:=s.takeWhile fun b=>!decide (b=45)
def nB(s:Str):Str:=s.drop ((j7 s).length+1)
def pk(s:Str):Bool:=decide ((j7 s).length<s.length)
end Go.Pd
end
section
namespace Go.Pd
open Go.AL
end Go.Pd
namespace Go.Pd
open Go.AL
def qq:Str:=[48,49,50,51,52,53,54,55,56,57]
def mO(b:UInt8):Bool:=gQ (bI b)
def mP(s:Str):Str:=(s.reverse.dropWhile mO).reverse.dropWhile mO
def Hi(s:Str)(c:Int):Int:=aF (fun b=>!decide (bI b=c)) s 0
def kg(s:Str):Nat×Nat:=if s=[]then(65533,0)else Lib.decodeN s.length (s.getD 0 0).toNat (s.getD 1 0).toNat (s.getD 2 0).toNat (s.getD 3 0).toNat
theorem mQ{p:UInt8->Bool}:∀{l:Str},l.dropWhile p=[]↔l.all p=true
 |[]=>by simp
 |b::r=>by
  rw[PA];split
  ·rename_i h;rw[mQ,Ny,h,NH]
  ·rename_i h;simp[h]
theorem mR{p:UInt8->Bool}:∀(l:Str),(l.dropWhile p).all p=l.all p
 |[]=>rfl
 |b::r=>by
  rw[PA];split
  ·rename_i h;rw[mR r,Ny,h,NH]
  ·rfl
theorem EV(s:Str):mP s=[]↔s.all mO=true:=by unfold mP;rw[mQ,List.all_reverse,mR,List.all_reverse]
theorem Hj(s:Str):(mP s).length<=s.length:=by unfold mP;have h1:=(List.dropWhile_sublist (p:=mO) (l:=(s.reverse.dropWhile mO).reverse)).length_le;have h2:=(List.dropWhile_sublist (p:=mO) (l:=s.reverse)).length_le;rw[List.length_reverse]at h1 h2;omega
def EW(n b0 b1 b2 b3:Nat):Nat:=
 if b0<128 then 1
 else if b0/32=6/\(1<n/\b1/64=2)then(if b0%32 *64+b1%64≥128 then 2 else 0)
 else if b0/16=14/\(1<n/\b1/64=2)/\(2<n/\b2/64=2)then
  (if b0%16 *4096+b1%64 *64+b2%64≥2048/\(b0%16 *4096+b1%64 *64+b2%64<55296∨(57344<=b0%16 *4096+b1%64 *64+b2%64/\b0%16 *4096+b1%64 *64+b2%64<=1114111))then 3 else 0)
 else if b0/8=30/\(1<n/\b1/64=2)/\(2<n/\b2/64=2)/\(3<n/\b3/64=2)then
  (if b0%8 *262144+b1%64 *4096+b2%64 *64+b3%64≥65536/\(b0%8 *262144+b1%64 *4096+b2%64 *64+b3%64<55296∨(57344<=b0%8 *262144+b1%64 *4096+b2%64 *64+b3%64/\b0%8 *262144+b1%64 *4096+b2%64 *64+b3%64<=1114111))then 4 else 0)
 else 0
theorem yy(n b0 b1 b2 b3:Nat)(h1:b1<256)(h2:b2<256)(h3:b3<256)(h0:b0<256)(hn:1<=n) :
  ((Lib.decodeN n b0 b1 b2 b3).1=65533/\(Lib.decodeN n b0 b1 b2 b3).2=1↔EW n b0 b1 b2 b3=0)/\(EW n b0 b1 b2 b3≠0->(Lib.decodeN n b0 b1 b2 b3).2=EW n b0 b1 b2 b3)/\
  (Lib.decodeN n b0 b1 b2 b3).1<=1114111/\1<=(Lib.decodeN n b0 b1 b2 b3).2/\(Lib.decodeN n b0 b1 b2 b3).2<=n:=by
 unfold Lib.decodeN EW;by_cases c1:b0<128
 ·simp only[MT c1];refine⟨⟨fun e=>?_,fun e=>?_⟩,fun e=>?_,?_,?_,?_⟩<;>first|omega|exact⟨rfl,rfl⟩|exact Xr|exact(e rfl).elim|exact e.elim|exact(e trivial).elim|simp only at *
 simp only[MS c1];by_cases c2:b0/32=6/\(1<n/\b1/64=2)
 ·simp only[MT c2];by_cases d:b0%32 *64+b1%64≥128
  ·simp only[MT d];refine⟨⟨fun e=>?_,fun e=>?_⟩,fun e=>?_,?_,?_,?_⟩<;>first|omega|exact⟨rfl,rfl⟩|exact Xr|exact(e rfl).elim|exact e.elim|exact(e trivial).elim|simp only at *
  ·simp only[MS d];refine⟨⟨fun e=>?_,fun e=>?_⟩,fun e=>?_,?_,?_,?_⟩<;>first|omega|exact⟨rfl,rfl⟩|exact Xr|exact(e rfl).elim|exact e.elim|exact(e trivial).elim|simp only at *
 simp only[MS c2];by_cases c3:b0/16=14/\(1<n/\b1/64=2)/\(2<n/\b2/64=2)
 ·simp only[MT c3];by_cases d:b0%16 *4096+b1%64 *64+b2%64≥2048/\(b0%16 *4096+b1%64 *64+b2%64<55296∨(57344<=b0%16 *4096+b1%64 *64+b2%64/\b0%16 *4096+b1%64 *64+b2%64<=1114111))
  ·simp only[MT d];refine⟨⟨fun e=>?_,fun e=>?_⟩,fun e=>?_,?_,?_,?_⟩<;>first|omega|exact⟨rfl,rfl⟩|exact Xr|exact(e rfl).elim|exact e.elim|exact(e trivial).elim|simp only at *
  ·simp only[MS d];refine⟨⟨fun e=>?_,fun e=>?_⟩,fun e=>?_,?_,?_,?_⟩<;>first|omega|exact⟨rfl,rfl⟩|exact Xr|exact(e rfl).elim|exact e.elim|exact(e trivial).elim|simp only at *
 simp only[MS c3];by_cases c4:b0/8=30/\(1<n/\b1/64=2)/\(2<n/\b2/64=2)/\(3<n/\b3/64=2)
 ·simp only[MT c4];by_cases d:b0%8 *262144+b1%64 *4096+b2%64 *64+b3%64≥65536/\(b0%8 *262144+b1%64 *4096+b2%64 *64+b3%64<55296∨(57344<=b0%8 *262144+b1%64 *4096+b2%64 *64+b3%64/\b0%8 *262144+b1%64 *4096+b2%64 *64+b3%64<=1114111))
  ·simp only[MT d];refine⟨⟨fun e=>?_,fun e=>?_⟩,fun e=>?_,?_,?_,?_⟩<;>first|omega|exact⟨rfl,rfl⟩|exact Xr|exact(e rfl).elim|exact e.elim|exact(e trivial).elim|simp only at *
  ·simp only[MS d];refine⟨⟨fun e=>?_,fun e=>?_⟩,fun e=>?_,?_,?_,?_⟩<;>first|omega|exact⟨rfl,rfl⟩|exact Xr|exact(e rfl).elim|exact e.elim|exact(e trivial).elim|simp only at *
 simp only[MS c4];refine⟨⟨fun e=>?_,fun e=>?_⟩,fun e=>?_,?_,?_,?_⟩<;>first|omega|exact⟨rfl,rfl⟩|exact Xr|exact(e rfl).elim|exact e.elim|exact(e trivial).elim|simp only at *
theorem yz(c:Nat):qM c=true↔(c<55296∨(57344<=c/\c<=1114111)):=by unfold qM;simp only[MR,MV,Nc,Bool.and_eq_false_iff,Ns];omega
theorem EX(r:Str)(k:Nat):qf r k=true↔(k+1<r.length+1/\(r.getD k 0).toNat/64=2):=by unfold qf;simp only[MR,MV];omega
theorem Lu(b:UInt8)(r:Str):wD (b::r)=EW (r.length+1) b.toNat (r.getD 0 0).toNat (r.getD 1 0).toNat (r.getD 2 0).toNat:=by unfold wD EW qp;simp only[EX,yz]
theorem yA{s:Str}(h:s≠[]):((kg s).1=65533/\(kg s).2=1↔wD s=0)/\(wD s≠0->(kg s).2=wD s)/\(kg s).1<=1114111/\1<=(kg s).2/\(kg s).2<=s.length:=by
 cases s with
 |nil=>exact absurd rfl h
 |cons b r=>
  have e:kg (b::r)=Lib.decodeN (r.length+1) b.toNat (r.getD 0 0).toNat (r.getD 1 0).toNat (r.getD 2 0).toNat:=by unfold kg;rw[MS h];rfl
  rw[e,Lu,Ni];exact yy _ _ _ _ _ (r.getD 0 0).toNat_lt (r.getD 1 0).toNat_lt (r.getD 2 0).toNat_lt b.toNat_lt (by omega)
end Go.Pd
namespace Go.Pd
open Go.AL
end Go.Pd
namespace Go.Pd
open Go.AL
theorem sI(c:Int):iM c=true↔(48<=c/\c<=57)∨(97<=c/\c<=122)∨(65<=c/\c<=90)∨c=45:=by unfold iM gQ cW df;simp only[NO,MR,MV];omega
theorem jo{s:Str}(h:s≠[])(hz:(bZ s&&decide (bI (s.getD 0 0)=48)&&!decide (s=[48]))=false):fR s=s.all fun c=>iM (bI c):=by unfold fR;rw[hz,Xf h];simp
end Go.Pd
namespace Go.Pd
open Go.AL
theorem eU(c:UInt8):∀s:Str,(splitB c s).length<=s.length+1
 |[]=>by simp[splitB]
 |b::r=>by
  have ih:=eU c r;unfold splitB;split
  ·simp only[Ni];omega
  ·split
   ·simp
   ·rename_i e;rw[e]at ih;simp only[Ni]at ih⊢;omega
theorem mS{α:Type}{p:α->Bool}{l:List α}{k:Nat}(d:α)(hk:k<l.length)(h:(l.take k).all p=true)(hp:p (l.getD k d)=true):(l.take (k+1)).all p=true:=by rw[eh l k d hk,List.all_append,h,Ny,hp];rfl
theorem Hk{α:Type}{p:α->Bool}{l:List α}{k:Nat}(h:l.length<=k):(l.take k).all p=l.all p:=by rw[ON h]
theorem yB{α:Type}{p:α->Bool}{l:List α}{k:Nat}(d:α)(hk:k<l.length)(hp:p (l.getD k d)=false):l.all p=false:=by rw[Og];intro e;have:=N6.1 e _ (bG l k d hk);rw[this]at hp;cases hp
def qt(n:Int):Bool:=decide (0<=n)&&decide (n<=999999)
theorem BJ{v:Vers}(h:[v.major,v.minor,v.patch].all qt=false):dx v=40:=by unfold dx;rw[MT];simp only[Ny,Q3,Ql,Bool.and_eq_false_iff,qt,Ns]at h;omega
theorem yC{v:Vers}(h:[v.major,v.minor,v.patch].all qt=true):dx v=if 24<v.pre.length then 40 else if v.pre=[]then 0 else if(splitB 46 v.pre).all fR=true then 0 else 40:=by unfold dx;rw[MS];simp only[Ny,Q3,Ql,MR,qt,MV]at h;omega
end Go.Pd
namespace Go.Pd
open Go.AL
theorem EY(s:Str):(j7 s).length<=s.length:=(List.takeWhile_sublist _).length_le
end Go.Pd
namespace Go.Pd
open Go.AL
end Go.Pd
namespace Go.Pd
open Go.AL
end Go.Pd
end
section
namespace Go.AL
open Go.Proofs Go.Shelf Go.RowKit Go.Pd
theorem hU{c:UInt8}:∀{s:Str},Lib.indexByte s c=-1->c∉s
 |[],_=>OG
 |b::r,h=>by
  unfold Lib.indexByte at h;by_cases e:b=c
  ·subst e;simp at h
  ·have e':(b ==c)=false:=OM.2 e;rw[e']at h;simp only[O5,Nt]at h;have hg:=Lib.indexByte_ge r c;split at h
   ·rename_i k;have:=hU (s:=r) (by simpa using k);rw[N9,Qj];exact⟨fun q=>e q.symm,this⟩
   ·omega
theorem fN{c:UInt8}:∀{s:Str},Lib.indexByte s c≠-1->∃k:Nat,Lib.indexByte s c=k/\k<s.length/\s=s.take k++c::s.drop (k+1)/\c∉s.take k
 |[],h=>absurd rfl h
 |b::r,h=>by
  unfold Lib.indexByte at h⊢;by_cases e:b=c
  ·subst e;refine⟨0,by simp,by simp,by simp,by simp⟩
  ·have e':(b ==c)=false:=OM.2 e;rw[e']at h⊢;simp only[O5,Nt]at h⊢;split at h
   ·exact absurd rfl h
   ·rename_i k;obtain⟨j,j1,j2,j3,j4⟩:=fN (s:=r) (by simpa using k);rw[MS k];refine⟨j+1,by rw[j1];rfl,by simp;omega,?_,?_⟩
    ·rw[NW,Oe,Od,<-j3]
    ·rw[NW,N9,Qj];exact⟨fun q=>e q.symm,j4⟩
theorem sJ{c:UInt8}:∀{s:Str},c∉s->splitB c s=[s]
 |[],_=>rfl
 |b::r,h=>by rw[N9,Qj]at h;unfold splitB;rw[MS (fun e=>h.1 e.symm),sJ h.2]
theorem vc{c:UInt8}:∀{a:Str} (r:Str),c∉a->splitB c (a++c::r)=a::splitB c r
 |[],r,_=>by rw[Oa,splitB,MT rfl]
 |b::a,r,h=>by rw[N9,Qj]at h;rw[Od,splitB,MS (fun e=>h.1 e.symm),vc r h.2]
theorem sK(c:UInt8):∀(n:Nat)(s:Str),s.length<=n->Lib.splitK [c] 0 (s.count c) s=splitB c s
 |n,s,hn=>by
  by_cases h:Lib.indexByte s c=-1
  ·have hm:=hU h;rw[List.count_eq_zero.2 hm,sJ hm];rfl
  ·obtain⟨k,k1,k2,k3,k4⟩:=fN h;have hc:s.count c=(s.drop (k+1)).count c+1:=by have e:=Oz (List.count c) k3;rw[List.count_append,List.count_cons_self,List.count_eq_zero.2 k4]at e;omega
   rw[hc];unfold Lib.splitK;rw[Lib.index_one,MS (by simpa using h),k1];have hd:(k:Int).toNat+[c].length=k+1:=rfl;have ht:(k:Int).toNat+0=k:=rfl;rw[hd,ht]
   cases n with
   |zero=>omega
   |succ n=>
    rw[sK c n (s.drop (k+1)) (by rw[P8];omega)];conv=>rhs;rw[k3]
    rw[vc _ k4]
theorem oh{c:UInt8}:∀{a:Str} (r:Str),c∉a->(a++c::r).takeWhile (fun b=>!decide (b=c))=a
 |[],r,_=>by simp
 |b::a,r,h=>by rw[N9,Qj]at h;have hb:¬b=c:=fun e=>h.1 e.symm;rw[Od,List.takeWhile_cons];simp only[hb,Q1,PH,NU];rw[oh r h.2]
theorem tY{c:UInt8}{s:Str}(h:c∉s):s.takeWhile (fun b=>!decide (b=c))=s:=by
 induction s with
 |nil=>rfl
 |cons b r ih=>rw[N9,Qj]at h;have hb:¬b=c:=fun e=>h.1 e.symm;rw[List.takeWhile_cons];simp only[hb,Q1,PH,NU];rw[ih h.2]
theorem Hl(s:Str):Lib.cut s [45]=(j7 s,nB s,pk s):=by
 unfold Lib.cut;rw[Lib.index_one];by_cases h:Lib.indexByte s 45=-1
 ·have hm:=hU h;rw[h,MS (by decide)];have e:j7 s=s:=tY hm;unfold nB pk;rw[e,List.drop_eq_nil_of_le (by omega)];simp
 ·obtain⟨k,k1,k2,k3,k4⟩:=fN h;rw[k1,MT (by omega)]
  have e:j7 s=s.take k:=by
   unfold j7;conv=>lhs;rw[k3]
   exact oh _ k4
  have hl:(s.take k).length=k:=by rw[Oj];omega
  unfold nB pk;rw[e,hl];simp[k2]
theorem JQ(s:Str)(c:Int)(h0:0<=c)(h1:c<=255):∀k:Nat,aF (fun b=>!decide (bI b=c)) s k=if Lib.indexByte s c.toNat.toUInt8=-1 then -1 else Lib.indexByte s c.toNat.toUInt8+k:=by
 have hb:∀b:UInt8,(bI b=c)↔b=c.toNat.toUInt8:=by
  intro b;unfold bI;constructor
  ·intro e;have:c.toNat=b.toNat:=by omega
   rw[this];simp
  ·intro e;rw[e];simp[Nat.toUInt8];omega
 induction s with
 |nil=>intro k;rfl
 |cons b r ih=>
  intro k;rw[aF];by_cases e:bI b=c
  ·have e2:=(hb b).1 e;rw[MS (by simp[e])];unfold Lib.indexByte;rw[e2];simp
  ·have e2:(b ==c.toNat.toUInt8)=false:=OM.2 (fun q=>e ((hb b).2 q));rw[MT (by simp[e]),ih (k+1)];have hg:=Lib.indexByte_ge r c.toNat.toUInt8;have e3:Lib.indexByte (b::r) c.toNat.toUInt8=(if b ==c.toNat.toUInt8 then 0 else if Lib.indexByte r c.toNat.toUInt8 ==-1 then -1 else Lib.indexByte r c.toNat.toUInt8+1):=rfl;rw[e3,e2];simp only[O5,Nt,NR];by_cases q:Lib.indexByte r c.toNat.toUInt8=-1
   ·rw[MT q,MT q];rfl
   ·rw[MS q,MS q,MS (by omega)];omega
theorem yD(s:Str)(c:UInt8):decide (0<=Lib.indexByte s c)=decide (c∈s):=by
 have hg:=Lib.indexByte_ge s c;rw[O1];by_cases h:Lib.indexByte s c=-1
 ·exact⟨fun e=>by omega,fun e=>absurd e (hU h)⟩
 ·obtain⟨k,k1,k2,k3,k4⟩:=fN h;exact⟨fun _=>by rw[k3];simp,fun _=>by omega⟩
variable [Tabs] {P:Program} {ρ:Ren}
theorem Below.drawn(w:World)(n:Nat):Below w.heap.size w (w.drewN n):=⟨rfl,rfl,rfl,N8 _,fun _ _=>rfl⟩
theorem After.news{w w':World}{pub:Nat->Nat->Prop}{e:Nat->Option CObj}(hp:kB w pub)(hd:∀id,e id=none)(hb:Below w.heap.size w w'){p:Nat->Prop}(hc:∀o,p o->∃v,w'.cell? ⟨w.heap.size,o,none⟩=some v) :
  After w pub e (aj (bO [] [])) w' (fun b o=>pub b o∨(b=w.heap.size/\p o)) e where
 os:=hb.os
 tape:=hb.tape
 output:=hb.output
 size:=hb.size
 block b h _:=hb.block b h
 cell b o h _:=ai (hb.block b h) o
 kind b h _:=⟨aR (hb.block b h),fun o=>aK (hb.block b h) o⟩
 ext:=⟨fun _ c h=>⟨c,h,CLe.refl c⟩,fun _ _ h=>.inl h,fun b o h=>by obtain⟨v,hv⟩:=hp b o h;exact ai (hb.block b (aS hv)) o⟩
 fresh b o h:=by
  rcases h with h|⟨rfl,_⟩
  ·exact .inl h
  ·exact .inr (.inl (N8 _))
 ok b o h:=by
  rcases h with h|⟨rfl,h⟩
  ·obtain⟨v,hv⟩:=hp b o h;exact⟨v,(ai (hb.block b (aS hv)) o).trans hv⟩
  ·exact hc o h
 slots id o h:=by simp[bO,aN,aG]at h
 dom id _:=hd id
 inj i j c d b o h:=by rw[hd i]at h;cases h
theorem du{f:Nat}{args:List AV}{A:AV}{ob:Option Prop}(h:∀(w:World)(pub:Nat->Nat->Prop)(vs:List Value),il w pub (fun _=>none)->VL ⟨fun _=>none,w,pub⟩ args vs->Calls P f vs.toArray w fun e w'=>(∃v,e=.returned v/\∀Ω,V Ω A v)/\Below w.heap.size w w') :
  an P f args [] ⟨ob,none,A,[]⟩:=by
 intro w pub e vs hp ht hv hs hd hi;have he:e=fun _=>none:=funext fun id=>hd id rfl;subst he;refine(h w pub vs ht hv).mono ?_;rintro en w' ⟨⟨v,rfl,hV⟩,hb⟩;exact⟨pub,_,And.intro (fun b pv u h=>by cases h) (And.intro (hV _) (After.below hp (fun _=>rfl) hb))⟩
theorem VL.two_str{Ω:Om}{a b:Str}{vs:List Value}(h:VL Ω [.str a,.str b] vs):vs=[.string ⟨a.toArray⟩,.string ⟨b.toArray⟩]/\a.length<=aY/\b.length<=aY:=by obtain⟨v1,v2,rfl,h1,h2⟩:=VL.two_inv h;obtain⟨rfl,l1⟩:=h1.str_inv;obtain⟨rfl,l2⟩:=h2.str_inv;exact⟨rfl,l1,l2⟩
def JR:Pat:=p2 .str .str fun a b=>⟨some (b=qq),none,.str (mP a),[]⟩
set_option maxRecDepth 100000 in
theorem Hm(b:UInt8):qq.contains b=mO b:=by
 have h:∀b:Fin 256,qq.contains (UInt8.ofNat b.val)=mO (UInt8.ofNat b.val):=by decide
 have:=h ⟨b.toNat,b.toNat_lt⟩;simpa using this
theorem BK{f:Nat}(L:Lays.n160 P ρ)(h116:(P.info? (ρ.t 116)).map (fun i=>(i.zero,i.size))=some (some (.agg (Array.replicate 256 (.bool false))),256))(hf:ρ.f 160=f)(he:aq P f):ag P f JR:=by
 subst hf;refine cP he fun a b _ _ ho=>?_;have hb:=ho _ rfl;subst hb;refine du fun w pub vs _ hv=>?_;obtain⟨rfl,l1,l2⟩:=VL.two_str hv;have l1':a.length<=9223372036854775807:=l1;refine(Any.strings_Trim_laid L h116 ⟨a.toArray⟩ ⟨qq.toArray⟩ w (by simpa[ByteArray.size]using l1') (by decide) (fun j b hj=>?_)).mono ?_
 ·have hd:∀b∈qq,b.toNat<128:=by decide
  exact hd b (Nf hj)
 ·rintro en w' ⟨rfl,hb⟩;refine⟨⟨_,rfl,fun Ω=>?_⟩,hb⟩;have e:Lib.trimS a qq=mP a:=by have ef:(fun b=>qq.contains b)=mO:=funext Hm;unfold Lib.trimS Lib.trimLeftS Lib.trimRightS mP;rw[ef]
  have e2:(⟨a.toArray⟩:ByteArray).data.toList=a:=rfl;have e3:(⟨qq.toArray⟩:ByteArray).data.toList=qq:=rfl;rw[e2,e3,e];exact .str _ (NZ (Hj a) l1)
def Lv:Pat:=p2 .str .str fun a b=>⟨some (b=[45]/\a.length<4294967281),none,.tup [.str (j7 a),.str (nB a),.bool (pk a)],[]⟩
theorem EZ{f:Nat}{m:Int}(L:Lays.n145 P ρ)(hm:Tabs.tab (ρ.g 1) 0 (.int .i64 m))(hf:ρ.f 145=f)(he:aq P f):ag P f Lv:=by
 subst hf;refine cP he fun a b _ _ ho=>?_;obtain⟨hb,hl⟩:=ho _ rfl;subst hb;refine du fun w pub vs ht hv=>?_;obtain⟨rfl,l1,l2⟩:=VL.two_str hv;refine(Any.strings_Cut L ⟨a.toArray⟩ ⟨([45]:Str).toArray⟩ m w (by simpa[ByteArray.size]using hl) (ht.1 _ _ _ hm).2).mono ?_;rintro en w' ⟨rfl,n,rfl⟩;refine⟨⟨_,rfl,fun Ω=>?_⟩,Below.drawn w n⟩;have e2:(⟨a.toArray⟩:ByteArray).data.toList=a:=rfl;have e3:(⟨([45]:Str).toArray⟩:ByteArray).data.toList=[45]:=rfl;rw[e2,e3,Hl];refine V.of_tup (VL.cons (.str _ ?_) (VL.cons (.str _ ?_) (VL.cons (.bool _) .nil)))
 ·exact NZ (EY a) l1
 ·unfold nB;rw[P8];exact NZ (Nat.sub_le _ _) l1
def yE:Pat:=p2 .str .str fun a b=>⟨some (b.length=1),none,.bool (decide (b.getD 0 0∈a)),[]⟩
theorem sL{f:Nat}(L:Lays.n144 P ρ)(hf:ρ.f 144=f)(he:aq P f):ag P f yE:=by
 subst hf;refine cP he fun a b _ _ ho=>?_;have hb:b.length=1:=ho _ rfl
 obtain⟨c,rfl⟩:∃c,b=[c]:=by
  match b,hb with
  |[c],_=>exact⟨c,rfl⟩
 refine du fun w pub vs ht hv=>?_;obtain⟨rfl,l1,l2⟩:=VL.two_str hv;refine(Any.strings_Contains_one L ⟨a.toArray⟩ c w).mono ?_;rintro en w' ⟨rfl,rfl⟩;refine⟨⟨_,rfl,fun Ω=>?_⟩,Below.refl _ _⟩;have e2:(⟨a.toArray⟩:ByteArray).data.toList=a:=rfl;rw[e2,yD];exact .bool _
def wE:Pat:=p2 .str (.int .u8) fun a c=>.ret (.int .i64 (Hi a c))
theorem qu{f:Nat}(L:Lays.n137 P ρ)(hf:ρ.f 137=f)(he:aq P f):ag P f wE:=by
 subst hf;refine cP he fun a c _ _ ho=>?_;refine du fun w pub vs ht hv=>?_;obtain⟨v1,v2,rfl,h1,h2⟩:=VL.two_inv hv;obtain⟨rfl,l1⟩:=h1.str_inv;obtain⟨rfl,c1,c2⟩:=(show V _ (.int .u8 c) v2 from h2).int_inv;have c1:(0:Int)<=c:=c1;have c2:c<=(255:Int):=c2;refine(Any.strings_IndexByte L ⟨a.toArray⟩ c w).mono ?_;rintro en w' ⟨rfl,rfl⟩;refine⟨⟨_,rfl,fun Ω=>?_⟩,Below.refl _ _⟩;have e2:(⟨a.toArray⟩:ByteArray).data.toList=a:=rfl
 have e:Hi a c=Lib.indexByte a c.toNat.toUInt8:=by
  unfold Hi;rw[JQ a c c1 c2 0];split
  ·rename_i h;exact h.symm
  ·simp
 rw[e2,e];have hg:=Lib.indexByte_ge a c.toNat.toUInt8
 have hu:Lib.indexByte a c.toNat.toUInt8<=(a.length:Int):=by
  by_cases q:Lib.indexByte a c.toNat.toUInt8=-1
  ·omega
  ·obtain⟨k,k1,k2,_⟩:=fN q;omega
 have l1':a.length<=9223372036854775807:=l1;have b1:inR .i64 (Lib.indexByte a c.toNat.toUInt8):=aD (by omega) (by omega);exact .int _ _ b1.1 b1.2
def Hn:Pat:=p2 .str .str fun a b=>⟨some (b=[46]/\a.length<4294967281),none,.lst .str (splitB 46 a) none,[]⟩
theorem sM(c:UInt8):∀(s:Str),∀x∈splitB c s,x.length<=s.length
 |[],x,h=>by rw[NB.1 h];exact N8 _
 |b::r,x,h=>by
  have ih:=sM c r;unfold splitB at h;split at h
  ·rcases N9.1 h with e|e
   ·rw[e];exact N2 _
   ·have:=ih x e;rw[Ni];omega
  ·split at h
   ·rw[NB.1 h,Ni];simp
   ·rename_i p ps e0;rcases N9.1 h with e|e
    ·have:=ih p (by rw[e0];exact Nn ..);rw[e,Ni,Ni];omega
    ·have:=ih x (by rw[e0];exact N4 _ e);rw[Ni];omega
theorem yF{f:Nat}{m:Int}(L:Lays.n146 P ρ)(hi9:(P.info? (ρ.t 9)).map (fun i=>(i.zero,i.size,i.bytes))=some (some (.string ByteArray.empty),1,16))(hm:Tabs.tab (ρ.g 1) 0 (.int .i64 m))(hf:ρ.f 146=f)(he:aq P f):ag P f Hn:=by
 subst hf;refine cP he fun a b _ _ ho=>?_;obtain⟨hb,hl⟩:=ho _ rfl;subst hb;intro w pub e vs hp ht hv hs hd hi;obtain⟨rfl,l1,l2⟩:=VL.two_str hv;have l1':a.length<=9223372036854775807:=l1;refine(Any.strings_Split L hi9 ⟨a.toArray⟩ ⟨([46]:Str).toArray⟩ m w (by simpa[ByteArray.size]using hl) (ht.1 _ _ _ hm).2 (by decide)).mono ?_;rintro en w' ⟨rfl,rfl⟩;have e2:(⟨a.toArray⟩:ByteArray).data.toList=a:=rfl;have e3:(⟨([46]:Str).toArray⟩:ByteArray).data.toList=[46]:=rfl;have hcount:Lib.countB ⟨a.toArray⟩ ⟨([46]:Str).toArray⟩=a.count 46:=by show Lib.count a [46]=_;rw[Lib.count_one]
 have hsp:(Lib.splitB ⟨([46]:Str).toArray⟩ 0 (Lib.countB ⟨a.toArray⟩ ⟨([46]:Str).toArray⟩) ⟨a.toArray⟩).map (·.data.toList)=splitB 46 a:=by rw[Lib.splitB_data,hcount];exact sK 46 a.length a (N8 _)
 generalize Lib.splitB ⟨([46]:Str).toArray⟩ 0 (Lib.countB ⟨a.toArray⟩ ⟨([46]:Str).toArray⟩) ⟨a.toArray⟩=bs at hsp
 have hcl:(splitB 46 a).length=Lib.countB ⟨a.toArray⟩ ⟨([46]:Str).toArray⟩+1:=by
  rw[hcount]
  have:∀s:Str,(splitB 46 s).length=s.count 46+1:=by
   intro s
   induction s with
   |nil=>rfl
   |cons b r ih=>
    unfold splitB;split
    ·rename_i h;subst h;rw[Ni,ih,List.count_cons_self]
    ·rename_i h;rw[List.count_cons_of_ne h];split
     ·rename_i e0;rw[e0]at ih;simp at ih
     ·rename_i p ps e0;rw[e0]at ih;simpa using ih
  exact this a
 have hbl:bs.length=(splitB 46 a).length:=by rw[<-hsp,NT]
 have hsz:=eU 46 a;rw[<-hcl];have hnew:(w.alloc (.cells (bs.map Value.string).toArray (ρ.t 9))).heap[w.heap.size]?=some (.cells (bs.map Value.string).toArray (ρ.t 9) (0,0)):=bg _ _;have hbw:Below w.heap.size w (w.alloc (.cells (bs.map Value.string).toArray (ρ.t 9))):=⟨rfl,rfl,rfl,by simp,fun b hb=>gK _ _ _ hb⟩;refine⟨fun b o=>pub b o∨(b=w.heap.size/\o<bs.length),e,And.intro (fun b pv u h=>by cases h) (And.intro ?_ (After.news hp (fun id=>hd id rfl) hbw (p:=fun o=>o<bs.length) (fun o ho=>?_)))⟩
 ·refine rK (Ω:=⟨e,w.alloc (.cells (bs.map Value.string).toArray (ρ.t 9)),fun b o=>pub b o∨(b=w.heap.size/\o<bs.length)⟩) (τ:=.str) (xs:=splitB 46 a) (vs:=bs.map Value.string) hnew ?_ ?_ (N8 _) (by unfold aY;omega) (fun i hi=>.inr ⟨rfl,by rw[hbl];simpa[ab]using hi⟩) (fun id hid=>by cases hid)
  ·have e1:(splitB 46 a).length *ab .str=bs.length:=by rw[hbl];exact Qf _
   rw[e1];exact ON (by simp)
  ·have ef:flat .str (splitB 46 a)=(splitB 46 a).map AV.str:=by unfold flat;rw[Pw];rfl
   rw[ef,<-hsp];refine⟨by simp,fun j c v hc hv=>?_⟩;rw[List.map_map,Np,N3]at hc;rw[Np,N3]at hv;obtain⟨x,hx,rfl⟩:=hc;obtain⟨y,hy,rfl⟩:=hv;rw[hx]at hy;cases hy;have hmem:x.data.toList∈splitB 46 a:=by rw[<-hsp];exact List.mem_map_of_mem (Nf hx)
   have hle:=sM 46 a _ hmem;have:=V.str (Ω:=⟨e,w.alloc (.cells (bs.map Value.string).toArray (ρ.t 9)),fun b o=>pub b o∨(b=w.heap.size/\o<bs.length)⟩) x.data.toList (NZ hle l1);exact this
 ·rw[ak hnew];exact⟨_,NG (by simpa using ho)⟩
def oi[Tabs](g3 g4:Nat):Prop:=
 (∀c,c<256->Tabs.tab g3 c (.int .u8 (Lib.firstT c)))/\(∀i,i<16->Tabs.tab g4 (2 *i) (.int .u8 (Lib.accLo i))/\Tabs.tab g4 (2 *i+1) (.int .u8 (Lib.accHi i)))
theorem oi.tabs{g3 g4:Nat}(h:oi g3 g4){w:World}{pub:Nat->Nat->Prop}{e:Nat->Option CObj}(ht:il w pub e):Lib.Utf8Tabs g3 g4 w:=
 ⟨fun c hc=>(ht.1 _ _ _ (h.1 c hc)).2,fun i hi=>⟨(ht.1 _ _ _ (h.2 i hi).1).2,(ht.1 _ _ _ (h.2 i hi).2).2⟩⟩
theorem JS(s:Str)(k:Nat)(h:k<s.length):((⟨s.toArray⟩:ByteArray).get! k)=s.getD k 0:=by rw[Utf8W.get!_of_lt _ k (by simpa[ByteArray.size]using h)];have:(⟨s.toArray⟩:ByteArray)[k]'(by simpa[ByteArray.size]using h)=s[k]:=rfl;rw[this];simp[MX,h]
theorem yG(n b0 b1 b2 b3 c1 c2 c3:Nat)(h1:1<n->b1=c1)(h2:2<n->b2=c2)(h3:3<n->b3=c3):Lib.decodeN n b0 b1 b2 b3=Lib.decodeN n b0 c1 c2 c3:=by
 rcases MY 3 n with k|k
 ·rw[h1 (by omega),h2 (by omega),h3 k]
 rcases MY 2 n with k2|k2
 ·rw[h1 (by omega),h2 k2];unfold Lib.decodeN;have e:¬3<n:=by omega
  simp only[e,false_and,and_false,Nt]
 rcases MY 1 n with k1|k1
 ·rw[h1 k1];unfold Lib.decodeN;have e:¬3<n:=by omega
  have e':¬2<n:=by omega
  simp only[e,e',false_and,and_false,Nt]
 ·unfold Lib.decodeN;have e:¬3<n:=by omega
  have e':¬2<n:=by omega
  have e'':¬1<n:=by omega
  simp only[e,e',e'',false_and,and_false,Nt]
theorem qg(s:Str):Lib.decodeGo ⟨s.toArray⟩=kg s:=by
 unfold Lib.decodeGo kg;have hs:(⟨s.toArray⟩:ByteArray).size=s.length:=by simp[ByteArray.size]
 rw[hs];by_cases h:s=[]
 ·subst h;rfl
 have hl:=Oo.2 h;rw[MS (by omega),MS h,Lib.decode_at,hs,Po,JS s 0 hl];exact yG _ _ _ _ _ _ _ _ (fun k=>by rw[JS s 1 k]) (fun k=>by rw[JS s 2 k]) (fun k=>by rw[JS s 3 k])
def tZ:Pat:=p1 .str fun s=>.ret (.tup [.int .i32 ((kg s).1:Int),.int .i64 ((kg s).2:Int)])
theorem BL(s:Str):(kg s).1<=1114111/\(kg s).2<=s.length:=by
 by_cases h:s=[]
 ·subst h;decide
 ·have:=yA h;exact⟨this.2.2.1,this.2.2.2.2⟩
theorem pn{f:Nat}(L:Lays.n197 P ρ)(hu:oi (ρ.g 3) (ρ.g 4))(hf:ρ.f 197=f)(he:aq P f):ag P f tZ:=by subst hf;refine bp he fun s _ ho=>?_;refine du fun w pub vs ht hv=>?_;obtain⟨v,rfl,h1⟩:=VL.one_inv hv;obtain⟨rfl,hl⟩:=h1.str_inv;have hl':s.length<=9223372036854775807:=hl;refine(Any.utf8_DecodeRuneInString L ⟨s.toArray⟩ w (hu.tabs ht)).mono ?_;rintro en w' ⟨rfl,hb⟩;refine⟨⟨_,rfl,fun Ω=>?_⟩,hb⟩;rw[qg];obtain⟨d1,d2⟩:=BL s;exact V.of_tup (VL.cons (.int .i32 _ (by show(-2147483648:Int)<=_;omega) (by show _<=(2147483647:Int);omega)) (VL.cons (.int .i64 _ (by show(-9223372036854775808:Int)<=_;omega) (by show _<=(9223372036854775807:Int);omega)) .nil))
theorem sO:∀(n:Nat)(l:Str)(k:Nat),Lib.validGoD n l=(DJ n l k).isNone
 |0,_,_=>rfl
 |n+1,l,k=>by
  unfold Lib.validGoD;rw[DJ];by_cases h:l=[]
  ·rw[MT h,MT h];rfl
  rw[MS h,MS h]
  have hd:Lib.decodeL l=kg l:=by
   rw[<-qg];unfold Lib.decodeL Lib.decodeGo
   rw[MS (by
    have:=Oo.2 h;simp[ByteArray.size];exact h)]
  obtain⟨b1,b2,_⟩:=yA h;rw[hd];by_cases u:wD l=0
  ·rw[MT (b1.2 u),MT u];rfl
  ·rw[MS (fun e=>u (b1.1 e)),MS u,b2 u];exact sO n _ _
def Ho:Pat:=p1 .str fun s=>.ret (.bool (sH s).isNone)
theorem yH{f:Nat}(L:Lays.n196 P ρ)(hu:oi (ρ.g 3) (ρ.g 4))(hf:ρ.f 196=f)(he:aq P f):ag P f Ho:=by subst hf;refine bp he fun s _ ho=>?_;refine du fun w pub vs ht hv=>?_;obtain⟨v,rfl,h1⟩:=VL.one_inv hv;obtain⟨rfl,hl⟩:=h1.str_inv;have hl':s.length<=9223372036854775807:=hl;refine(Any.utf8_ValidString L ⟨s.toArray⟩ w (by simpa[ByteArray.size]using hl') (hu.tabs ht)).mono ?_;rintro en w' ⟨rfl,hb⟩;refine⟨⟨_,rfl,fun Ω=>?_⟩,hb⟩;have e:Lib.validD s=(sH s).isNone:=sO s.length s 0;have e2:(⟨s.toArray⟩:ByteArray).data.toList=s:=rfl;rw[e2,e];exact .bool _
end Go.AL
end
section
namespace Go.Proofs
open Go.Shelf
def Tryz.lays160_ren:Go.Shelf.Ren:=⟨fun|160=>105|232=>164|231=>163|227=>165|234=>167|233=>166|236=>169|235=>168|228=>224|271=>226|151=>225|197=>162|120=>268|152=>267|260=>223|137=>173|119=>304|224=>305|225=>306|217=>230|266=>275|n=>n,fun|9=>9|4=>4|3=>3|5=>5|117=>252|116=>251|0=>0|124=>255|21=>21|105=>247|46=>178|119=>307|139=>310|138=>309|n=>n,fun|3=>0|4=>1|n=>n⟩
theorem Tryz.lays160:Go.Proofs.Lays.n160 Tryz.prog Tryz.lays160_ren:={
 mixed:=by kernel_rfl
 f119:=Xt Tryz.func304
 f120:=Xt Tryz.func268
 f137:=Xt Tryz.func173
 f151:=Xt Tryz.func225
 f152:=Xt Tryz.func267
 f160:=Xt Tryz.func105
 f197:=Xt Tryz.func162
 f217:=Xt Tryz.func230
 f224:=Xt Tryz.func305
 f225:=Xt Tryz.func306
 f227:=Xt Tryz.func165
 f228:=Xt Tryz.func224
 f231:=Xt Tryz.func163
 f232:=Xt Tryz.func164
 f233:=Xt Tryz.func166
 f234:=Xt Tryz.func167
 f235:=Xt Tryz.func168
 f236:=Xt Tryz.func169
 f260:=Xt Tryz.func223
 f266:=Xt Tryz.func275
 f271:=Xt Tryz.func226
 t0:=Tryz.underlying0
 a0:=Tryz.isAgg0
 z0:=Tryz.sizeOf0
 v0:=Tryz.zeroValue0
 t3:=Tryz.underlying3
 a3:=Tryz.isAgg3
 z3:=Tryz.sizeOf3
 v3:=Tryz.zeroValue3
 t4:=Tryz.underlying4
 a4:=Tryz.isAgg4
 z4:=Tryz.sizeOf4
 v4:=Tryz.zeroValue4
 t5:=Tryz.underlying5
 a5:=Tryz.isAgg5
 z5:=Tryz.sizeOf5
 v5:=Tryz.zeroValue5
 t9:=Tryz.underlying9
 a9:=Tryz.isAgg9
 z9:=Tryz.sizeOf9
 v9:=Tryz.zeroValue9
 t21:=Tryz.underlying21
 a21:=Tryz.isAgg21
 z21:=Tryz.sizeOf21
 v21:=Tryz.zeroValue21
 t46:=Tryz.underlying178
 a46:=Tryz.isAgg178
 z46:=Tryz.sizeOf178
 v46:=Tryz.zeroValue178
 t105:=Tryz.underlying247
 a105:=Tryz.isAgg247
 z105:=Tryz.sizeOf247
 v105:=Tryz.zeroValue247
 t116:=Tryz.underlying251
 a116:=Tryz.isAgg251
 z116:=Tryz.sizeOf251
 t117:=Tryz.underlying252
 a117:=Tryz.isAgg252
 z117:=Tryz.sizeOf252
 v117:=Tryz.zeroValue252
 t119:=Tryz.underlying307
 a119:=Tryz.isAgg307
 z119:=Tryz.sizeOf307
 t124:=Tryz.underlying255
 a124:=Tryz.isAgg255
 z124:=Tryz.sizeOf255
 v124:=Tryz.zeroValue255
 t138:=Tryz.underlying309
 a138:=Tryz.isAgg309
 z138:=Tryz.sizeOf309
 v138:=Tryz.zeroValue309
 t139:=Tryz.underlying310
 a139:=Tryz.isAgg310
 z139:=Tryz.sizeOf310
 v139:=Tryz.zeroValue310
 g3:=by kernel_rfl
 g4:=by kernel_rfl}
def Tryz.lays145_ren:Go.Shelf.Ren:=⟨fun|145=>170|220=>227|219=>269|217=>230|225=>306|224=>305|267=>307|266=>275|314=>323|n=>n,fun|9=>9|4=>4|59=>256|3=>3|5=>5|46=>178|146=>348|51=>230|n=>n,fun|1=>2|n=>n⟩
theorem Tryz.lays145:Go.Proofs.Lays.n145 Tryz.prog Tryz.lays145_ren:={
 mixed:=by kernel_rfl
 f145:=Xt Tryz.func170
 f217:=Xt Tryz.func230
 f219:=Xt Tryz.func269
 f220:=Xt Tryz.func227
 f224:=Xt Tryz.func305
 f225:=Xt Tryz.func306
 f266:=Xt Tryz.func275
 f267:=Xt Tryz.func307
 f314:=Xt Tryz.func323
 t3:=Tryz.underlying3
 a3:=Tryz.isAgg3
 z3:=Tryz.sizeOf3
 v3:=Tryz.zeroValue3
 t4:=Tryz.underlying4
 a4:=Tryz.isAgg4
 z4:=Tryz.sizeOf4
 v4:=Tryz.zeroValue4
 t5:=Tryz.underlying5
 a5:=Tryz.isAgg5
 z5:=Tryz.sizeOf5
 v5:=Tryz.zeroValue5
 t9:=Tryz.underlying9
 a9:=Tryz.isAgg9
 z9:=Tryz.sizeOf9
 v9:=Tryz.zeroValue9
 t46:=Tryz.underlying178
 a46:=Tryz.isAgg178
 z46:=Tryz.sizeOf178
 v46:=Tryz.zeroValue178
 t51:=Tryz.underlying230
 a51:=Tryz.isAgg230
 z51:=Tryz.sizeOf230
 v51:=Tryz.zeroValue230
 t59:=Tryz.underlying256
 a59:=Tryz.isAgg256
 z59:=Tryz.sizeOf256
 v59:=Tryz.zeroValue256
 t146:=Tryz.underlying348
 a146:=Tryz.isAgg348
 z146:=Tryz.sizeOf348
 v146:=Tryz.zeroValue348
 g1:=by kernel_rfl}
def Tryz.lays146_ren:Go.Shelf.Ren:=⟨fun|146=>124|221=>190|268=>245|138=>246|143=>231|195=>282|197=>162|218=>283|219=>269|260=>223|217=>230|225=>306|224=>305|267=>307|266=>275|314=>323|n=>n,fun|9=>9|31=>36|3=>3|4=>4|0=>0|105=>247|21=>21|5=>5|46=>178|119=>307|139=>310|138=>309|146=>348|51=>230|n=>n,fun|1=>2|3=>0|4=>1|n=>n⟩
theorem Tryz.lays146:Go.Proofs.Lays.n146 Tryz.prog Tryz.lays146_ren:={
 mixed:=by kernel_rfl
 f138:=Xt Tryz.func246
 f143:=Xt Tryz.func231
 f146:=Xt Tryz.func124
 f195:=Xt Tryz.func282
 f197:=Xt Tryz.func162
 f217:=Xt Tryz.func230
 f218:=Xt Tryz.func283
 f219:=Xt Tryz.func269
 f221:=Xt Tryz.func190
 f224:=Xt Tryz.func305
 f225:=Xt Tryz.func306
 f260:=Xt Tryz.func223
 f266:=Xt Tryz.func275
 f267:=Xt Tryz.func307
 f268:=Xt Tryz.func245
 f314:=Xt Tryz.func323
 t0:=Tryz.underlying0
 a0:=Tryz.isAgg0
 z0:=Tryz.sizeOf0
 v0:=Tryz.zeroValue0
 t3:=Tryz.underlying3
 a3:=Tryz.isAgg3
 z3:=Tryz.sizeOf3
 v3:=Tryz.zeroValue3
 t4:=Tryz.underlying4
 a4:=Tryz.isAgg4
 z4:=Tryz.sizeOf4
 v4:=Tryz.zeroValue4
 t5:=Tryz.underlying5
 a5:=Tryz.isAgg5
 z5:=Tryz.sizeOf5
 v5:=Tryz.zeroValue5
 t9:=Tryz.underlying9
 a9:=Tryz.isAgg9
 z9:=Tryz.sizeOf9
 v9:=Tryz.zeroValue9
 t21:=Tryz.underlying21
 a21:=Tryz.isAgg21
 z21:=Tryz.sizeOf21
 v21:=Tryz.zeroValue21
 t31:=Tryz.underlying36
 a31:=Tryz.isAgg36
 z31:=Tryz.sizeOf36
 v31:=Tryz.zeroValue36
 t46:=Tryz.underlying178
 a46:=Tryz.isAgg178
 z46:=Tryz.sizeOf178
 v46:=Tryz.zeroValue178
 t51:=Tryz.underlying230
 a51:=Tryz.isAgg230
 z51:=Tryz.sizeOf230
 v51:=Tryz.zeroValue230
 t105:=Tryz.underlying247
 a105:=Tryz.isAgg247
 z105:=Tryz.sizeOf247
 v105:=Tryz.zeroValue247
 t119:=Tryz.underlying307
 a119:=Tryz.isAgg307
 z119:=Tryz.sizeOf307
 t138:=Tryz.underlying309
 a138:=Tryz.isAgg309
 z138:=Tryz.sizeOf309
 v138:=Tryz.zeroValue309
 t139:=Tryz.underlying310
 a139:=Tryz.isAgg310
 z139:=Tryz.sizeOf310
 v139:=Tryz.zeroValue310
 t146:=Tryz.underlying348
 a146:=Tryz.isAgg348
 z146:=Tryz.sizeOf348
 v146:=Tryz.zeroValue348
 g1:=by kernel_rfl
 g3:=by kernel_rfl
 g4:=by kernel_rfl}
def Tryz.lays144_ren:Go.Shelf.Ren:=⟨fun|144=>175|143=>231|219=>269|217=>230|225=>306|224=>305|267=>307|266=>275|314=>323|n=>n,fun|9=>9|4=>4|3=>3|5=>5|46=>178|146=>348|51=>230|n=>n,fun|1=>2|n=>n⟩
theorem Tryz.lays144:Go.Proofs.Lays.n144 Tryz.prog Tryz.lays144_ren:={
 mixed:=by kernel_rfl
 f143:=Xt Tryz.func231
 f144:=Xt Tryz.func175
 f217:=Xt Tryz.func230
 f219:=Xt Tryz.func269
 f224:=Xt Tryz.func305
 f225:=Xt Tryz.func306
 f266:=Xt Tryz.func275
 f267:=Xt Tryz.func307
 f314:=Xt Tryz.func323
 t3:=Tryz.underlying3
 a3:=Tryz.isAgg3
 z3:=Tryz.sizeOf3
 v3:=Tryz.zeroValue3
 t4:=Tryz.underlying4
 a4:=Tryz.isAgg4
 z4:=Tryz.sizeOf4
 v4:=Tryz.zeroValue4
 t5:=Tryz.underlying5
 a5:=Tryz.isAgg5
 z5:=Tryz.sizeOf5
 v5:=Tryz.zeroValue5
 t9:=Tryz.underlying9
 a9:=Tryz.isAgg9
 z9:=Tryz.sizeOf9
 v9:=Tryz.zeroValue9
 t46:=Tryz.underlying178
 a46:=Tryz.isAgg178
 z46:=Tryz.sizeOf178
 v46:=Tryz.zeroValue178
 t51:=Tryz.underlying230
 a51:=Tryz.isAgg230
 z51:=Tryz.sizeOf230
 v51:=Tryz.zeroValue230
 t146:=Tryz.underlying348
 a146:=Tryz.isAgg348
 z146:=Tryz.sizeOf348
 v146:=Tryz.zeroValue348
 g1:=by kernel_rfl}
def Tryz.lays137_ren:Go.Shelf.Ren:=⟨fun|137=>173|217=>230|266=>275|n=>n,fun|9=>9|5=>5|3=>3|n=>n,fun|n=>n⟩
theorem Tryz.lays137:Go.Proofs.Lays.n137 Tryz.prog Tryz.lays137_ren:={
 mixed:=by kernel_rfl
 f137:=Xt Tryz.func173
 f217:=Xt Tryz.func230
 f266:=Xt Tryz.func275
 t3:=Tryz.underlying3
 a3:=Tryz.isAgg3
 z3:=Tryz.sizeOf3
 v3:=Tryz.zeroValue3
 t5:=Tryz.underlying5
 a5:=Tryz.isAgg5
 z5:=Tryz.sizeOf5
 v5:=Tryz.zeroValue5
 t9:=Tryz.underlying9
 a9:=Tryz.isAgg9
 z9:=Tryz.sizeOf9
 v9:=Tryz.zeroValue9}
def Tryz.lays197_ren:Go.Shelf.Ren:=⟨fun|197=>162|260=>223|n=>n,fun|9=>9|21=>21|3=>3|4=>4|5=>5|105=>247|119=>307|0=>0|46=>178|139=>310|138=>309|n=>n,fun|3=>0|4=>1|n=>n⟩
theorem Tryz.lays197:Go.Proofs.Lays.n197 Tryz.prog Tryz.lays197_ren:={
 mixed:=by kernel_rfl
 f197:=Xt Tryz.func162
 f260:=Xt Tryz.func223
 t0:=Tryz.underlying0
 a0:=Tryz.isAgg0
 z0:=Tryz.sizeOf0
 v0:=Tryz.zeroValue0
 t3:=Tryz.underlying3
 a3:=Tryz.isAgg3
 z3:=Tryz.sizeOf3
 v3:=Tryz.zeroValue3
 t4:=Tryz.underlying4
 a4:=Tryz.isAgg4
 z4:=Tryz.sizeOf4
 v4:=Tryz.zeroValue4
 t5:=Tryz.underlying5
 a5:=Tryz.isAgg5
 z5:=Tryz.sizeOf5
 v5:=Tryz.zeroValue5
 t9:=Tryz.underlying9
 a9:=Tryz.isAgg9
 z9:=Tryz.sizeOf9
 v9:=Tryz.zeroValue9
 t21:=Tryz.underlying21
 a21:=Tryz.isAgg21
 z21:=Tryz.sizeOf21
 v21:=Tryz.zeroValue21
 t46:=Tryz.underlying178
 a46:=Tryz.isAgg178
 z46:=Tryz.sizeOf178
 v46:=Tryz.zeroValue178
 t105:=Tryz.underlying247
 a105:=Tryz.isAgg247
 z105:=Tryz.sizeOf247
 v105:=Tryz.zeroValue247
 t119:=Tryz.underlying307
 a119:=Tryz.isAgg307
 z119:=Tryz.sizeOf307
 t138:=Tryz.underlying309
 a138:=Tryz.isAgg309
 z138:=Tryz.sizeOf309
 v138:=Tryz.zeroValue309
 t139:=Tryz.underlying310
 a139:=Tryz.isAgg310
 z139:=Tryz.sizeOf310
 v139:=Tryz.zeroValue310
 g3:=by kernel_rfl
 g4:=by kernel_rfl}
def Tryz.lays196_ren:Go.Shelf.Ren:=⟨fun|196=>240|259=>276|n=>n,fun|9=>9|4=>4|3=>3|5=>5|12=>12|119=>307|0=>0|46=>178|139=>310|138=>309|53=>232|n=>n,fun|3=>0|4=>1|n=>n⟩
theorem Tryz.lays196:Go.Proofs.Lays.n196 Tryz.prog Tryz.lays196_ren:={
 mixed:=by kernel_rfl
 f196:=Xt Tryz.func240
 f259:=Xt Tryz.func276
 t0:=Tryz.underlying0
 a0:=Tryz.isAgg0
 z0:=Tryz.sizeOf0
 v0:=Tryz.zeroValue0
 t3:=Tryz.underlying3
 a3:=Tryz.isAgg3
 z3:=Tryz.sizeOf3
 v3:=Tryz.zeroValue3
 t4:=Tryz.underlying4
 a4:=Tryz.isAgg4
 z4:=Tryz.sizeOf4
 v4:=Tryz.zeroValue4
 t5:=Tryz.underlying5
 a5:=Tryz.isAgg5
 z5:=Tryz.sizeOf5
 v5:=Tryz.zeroValue5
 t9:=Tryz.underlying9
 a9:=Tryz.isAgg9
 z9:=Tryz.sizeOf9
 v9:=Tryz.zeroValue9
 t12:=Tryz.underlying12
 a12:=Tryz.isAgg12
 z12:=Tryz.sizeOf12
 v12:=Tryz.zeroValue12
 t46:=Tryz.underlying178
 a46:=Tryz.isAgg178
 z46:=Tryz.sizeOf178
 v46:=Tryz.zeroValue178
 t53:=Tryz.underlying232
 a53:=Tryz.isAgg232
 z53:=Tryz.sizeOf232
 v53:=Tryz.zeroValue232
 t119:=Tryz.underlying307
 a119:=Tryz.isAgg307
 z119:=Tryz.sizeOf307
 t138:=Tryz.underlying309
 a138:=Tryz.isAgg309
 z138:=Tryz.sizeOf309
 v138:=Tryz.zeroValue309
 t139:=Tryz.underlying310
 a139:=Tryz.isAgg310
 z139:=Tryz.sizeOf310
 v139:=Tryz.zeroValue310
 g3:=by kernel_rfl
 g4:=by kernel_rfl}
end Go.Proofs
end
section
namespace Go.AL.Seat
open Go Go.AL Go.Proofs Go.Shelf Go.Pd
class SeatLaid[Tabs]:Prop where
 max:∃m:Int,Tabs.tab 2 0 (.int .i64 m)
 utf:oi 0 1
variable [Tabs] [SeatLaid]
theorem yI:ag Tryz.prog 105 (p2 .str .str fun a b=>⟨some (b=qq),none,.str (mP a),[]⟩):=BK Tryz.lays160 (by kernel_rfl) rfl (aq.mk' Tryz.func105 (by kernel_rfl))
theorem JT:ag Tryz.prog 170 (p2 .str .str fun a b=>⟨some (b=[45]/\a.length<4294967281),none,.tup [.str (j7 a),.str (nB a),.bool (pk a)],[]⟩):=
 let ⟨_,hm⟩:=SeatLaid.max;EZ Tryz.lays145 hm rfl (aq.mk' Tryz.func170 (by kernel_rfl))
theorem po:ag Tryz.prog 124 (p2 .str .str fun a b=>⟨some (b=[46]/\a.length<4294967281),none,.lst .str (splitB 46 a) none,[]⟩):=
 let ⟨_,hm⟩:=SeatLaid.max;yF Tryz.lays146 (by kernel_rfl) hm rfl (aq.mk' Tryz.func124 (by kernel_rfl))
theorem wF:ag Tryz.prog 175 (p2 .str .str fun a b=>⟨some (b.length=1),none,.bool (decide (b.getD 0 0∈a)),[]⟩):=sL Tryz.lays144 rfl (aq.mk' Tryz.func175 (by kernel_rfl))
theorem u9:ag Tryz.prog 173 (p2 .str (.int .u8) fun a c=>.ret (.int .i64 (Hi a c))):=qu Tryz.lays137 rfl (aq.mk' Tryz.func173 (by kernel_rfl))
theorem sP:ag Tryz.prog 162 (p1 .str fun s=>.ret (.tup [.int .i32 ((kg s).1:Int),.int .i64 ((kg s).2:Int)])):=pn Tryz.lays197 SeatLaid.utf rfl (aq.mk' Tryz.func162 (by kernel_rfl))
theorem F0:ag Tryz.prog 240 (p1 .str fun s=>.ret (.bool (sH s).isNone)):=yH Tryz.lays196 SeatLaid.utf rfl (aq.mk' Tryz.func240 (by kernel_rfl))
end Go.AL.Seat
end
section
namespace Go.AL
open Go.Shelf Go.Proofs Go.RowKit
variable [Tabs] {P:Program} {ρ:Ren}
theorem After.newRow{w w':World}{pub:Nat->Nat->Prop}{e:Nat->Option CObj}(hp:kB w pub)(hd:∀id,e id=none)(hb:Below w.heap.size w w'){g:Nat}(hg:w.heap.size<=g){p:Nat->Prop}(hc:∀o,p o->∃v,w'.cell? ⟨g,o,none⟩=some v) :
  After w pub e (aj (bO [] [])) w' (fun b o=>pub b o∨(b=g/\p o)) e where
 os:=hb.os
 tape:=hb.tape
 output:=hb.output
 size:=hb.size
 block b h _:=hb.block b h
 cell b o h _:=ai (hb.block b h) o
 kind b h _:=⟨aR (hb.block b h),fun o=>aK (hb.block b h) o⟩
 ext:=⟨fun _ c h=>⟨c,h,CLe.refl c⟩,fun _ _ h=>.inl h,fun b o h=>by obtain⟨v,hv⟩:=hp b o h;exact ai (hb.block b (aS hv)) o⟩
 fresh b o h:=by
  rcases h with h|⟨rfl,_⟩
  ·exact .inl h
  ·exact .inr (.inl hg)
 ok b o h:=by
  rcases h with h|⟨rfl,h⟩
  ·obtain⟨v,hv⟩:=hp b o h;exact⟨v,(ai (hb.block b (aS hv)) o).trans hv⟩
  ·exact hc o h
 slots id o h:=by simp[bO,aN,aG]at h
 dom id _:=hd id
 inj i j c d b o h:=by rw[hd i]at h;cases h
theorem yJ(L:Lays2.n16 P ρ)(l:List Str)(hb:l.length *16<=140737488355328){ob:Option Prop}:an P (ρ.f 16) [.lst .str l none] [] ⟨ob,none,.lst .str l none,[]⟩:=by
 intro w pub e vs hp ht hv hs hd hi;have he:e=fun _=>none:=funext fun id=>hd id rfl;subst he;obtain⟨v,rfl,hV⟩:=hv.one_inv
 cases hV with
 |lstNil _ _ tok=>refine(Any.slices_Clone_string_nil L 0 0 w).mono ?_;rintro en w' ⟨rfl,rfl⟩;exact⟨pub,_,fun b pv u h=>(by cases h),.lstNil _ _ tok,After.below hp (fun _=>rfl) (Below.refl _ _)⟩
 |lstVoid _ a=>
  refine(Any.slices_Clone_string_zero L a 0 w).mono ?_;rintro en w' ⟨v',rfl,⟨hl,hrow⟩,hn,hbw⟩;refine⟨pub,_,fun b pv u h=>(by cases h),?_,After.below hp (fun _=>rfl) hbw⟩;rcases hrow with⟨rfl,hz⟩|⟨g,cap,cur,rfl,hbase,hg,h1,h2,h3,h4⟩
  ·exact absurd rfl hn
  ·exact .lst .str [] none g 0 cap (fun _ _=>.bool false) (N2 _) (by unfold maxLen at h2;unfold aY;omega) (fun id h=>by cases h) (fun i x hx=>by cases hx) (fun i x hx=>by cases hx)
 |lst _ _ _ b off cap vals h1 h2 tok hcell hval=>
  have at_:∀i (hi:i<l.length),w.cell? ⟨b,off+i,none⟩=some (.string ⟨l[i].toArray⟩)/\l[i].length<=aY:=fun i hi=>by have hx:l[i]?=some l[i]:=MQ hi;obtain⟨_,c1⟩:=hcell i l[i] hx 0 (.str l[i]) rfl;have c2:=hval i l[i] hx 0 (.str l[i]) rfl;obtain⟨c3,c4⟩:=c2.str_inv;rw[c3,show off+(i *ab .str+0)=off+i by rw[show ab .str=1 from rfl];omega]at c1;exact⟨c1,c4⟩
  refine(Any.slices_Clone_string L b off l.length cap (l.map fun s=>(⟨s.toArray⟩:ByteArray)) w (by simp) hb (fun j hj=>?_)).mono ?_
  ·have hj':j<l.length:=by simpa using hj
   rw[(at_ j hj').1,MX,Np,MQ hj'];rfl
  rintro en w' ⟨v',rfl,⟨hl,hrow⟩,hn,hbw⟩;rcases hrow with⟨rfl,hz⟩|⟨g,cap',cur,rfl,hbase,hg,k1,k2,k3,k4⟩
  ·exact absurd rfl hn
  have hcur:∀i (hi:i<l.length),cur[i]?=some (.string ⟨l[i].toArray⟩):=fun i hi=>by
   have:(cur.toList.take (l.length *1))[i]?=some (.string ⟨l[i].toArray⟩):=by rw[k4,Np,Nl];simp[hi]
   rw[Nl]at this;split at this
   ·simpa using this
   ·cases this
  refine⟨fun b o=>pub b o∨(b=g/\o<l.length),_,fun b pv u h=>(by cases h),?_,After.newRow hp (fun _=>rfl) hbw hbase (p:=fun o=>o<l.length) (fun o ho=>⟨_,by rw[ak hg];exact hcur o ho⟩)⟩;refine .lst .str l none g 0 cap' (fun i _=>.string ⟨(l.getD i []).toArray⟩) k1 (by unfold maxLen at k2;unfold aY;omega) (fun id h=>by cases h) (fun i x hx j c hc=>?_) (fun i x hx j c hc=>?_)
  ·obtain⟨hi,rfl⟩:=Nw.1 hx
   have hj:j=0:=by
    cases j with|zero=>rfl|succ j=>simp[cells]at hc
   subst hj;rw[show 0+(i *ab .str+0)=i by rw[show ab .str=1 from rfl];omega];refine⟨.inr ⟨rfl,hi⟩,?_⟩;show w'.cell? ⟨g,i,none⟩=_;rw[ak hg,hcur i hi,MX,MQ hi];rfl
  ·obtain⟨hi,rfl⟩:=Nw.1 hx
   have hj:j=0:=by
    cases j with|zero=>rfl|succ j=>simp[cells]at hc
   subst hj;have e1:c=.str l[i]:=by simpa[cells]using hc.symm
   subst e1;rw[MX,MQ hi];exact .str _ (at_ i hi).2
def yK:Pat:=p1 (.lst .str) fun l=>⟨some (l.length *16<=140737488355328),none,.lst .str l none,[]⟩
theorem yL{f:Nat}(L:Lays2.n16 P ρ)(hf:ρ.f 16=f)(he:aq P f):ag P f yK:=by subst hf;exact bp he fun l _ ho=>yJ L l (ho _ rfl)
end Go.AL
end
section
namespace Go.Proofs
open Go.Shelf
def Tryz.lays2_16_ren:Go.Shelf.Ren:=⟨fun|16=>78|n=>n,fun|24=>36|9=>9|4=>4|n=>n,fun|n=>n⟩
theorem Tryz.lays2_16:Go.Proofs.Lays2.n16 Tryz.prog Tryz.lays2_16_ren:={
 mixed:=by kernel_rfl
 f16:=Xt Tryz.func78
 t4:=Tryz.underlying4
 a4:=Tryz.isAgg4
 z4:=Tryz.sizeOf4
 v4:=Tryz.zeroValue4
 t9:=Tryz.underlying9
 a9:=Tryz.isAgg9
 z9:=Tryz.sizeOf9
 v9:=Tryz.zeroValue9
 t24:=Tryz.underlying36
 a24:=Tryz.isAgg36
 z24:=Tryz.sizeOf36
 v24:=Tryz.zeroValue36
 i9:=by kernel_rfl}
end Go.Proofs
end
section
namespace Go.AL.Seat
open Go Go.AL Go.Proofs Go.Shelf Go.Pd
variable [Tabs]
theorem F1:ag Tryz.prog 78 yK:=yL Tryz.lays2_16 rfl (aq.mk' Tryz.func78 (by kernel_rfl))
end Go.AL.Seat
end
section
namespace Go.Proofs
open Go.Shelf
def Tryz.lays106_ren:Go.Shelf.Ren:=⟨fun|106=>249|213=>285|265=>316|n=>n,fun|9=>9|3=>3|n=>n,fun|n=>n⟩
theorem Tryz.lays106:Go.Proofs.Lays.n106 Tryz.prog Tryz.lays106_ren:={
 mixed:=by kernel_rfl
 f106:=Xt Tryz.func249
 f213:=Xt Tryz.func285
 f265:=Xt Tryz.func316
 t3:=Tryz.underlying3
 a3:=Tryz.isAgg3
 z3:=Tryz.sizeOf3
 v3:=Tryz.zeroValue3
 t9:=Tryz.underlying9
 a9:=Tryz.isAgg9
 z9:=Tryz.sizeOf9
 v9:=Tryz.zeroValue9}
end Go.Proofs
end
section
namespace Go.Pd
open Go.AL
def iB(b:UInt8):Bool:=!(decide (bI b<32)&&!decide (bI b=10)&&!decide (bI b=9))
def sQ(s:Str):Bool:=s.all iB&&(sH s).isNone
def ct(s:Shape):Bool:=decide (di s=0)&&allS aI s
def fS(t:Trm)(n v s p:Nat):Bool:=decide (t.names.length=n)&&decide (t.vars.length=v)&&decide (t.shapes.length=s)&&decide (t.parts.length=p)
def qh(t:Trm):Bool:=decide (0<=t.pos)&&(decide (t.n=0)||decide (t.kind=1))&&(decide (t.pkg=[])||decide (t.kind=5))&&t.shapes.all ct
def j8(l:List Str):Bool:=l.all ay&&decide l.Nodup
def vd(t:Trm):Bool:=
 if t.kind=1 then decide (t.name=[])&&decide (0<=t.n)&&decide (t.n<=999999999999999)&&fS t 0 0 0 0
 else if t.kind=2 then sQ t.name&&fS t 0 0 0 0
 else if t.kind=3∨t.kind=4 then decide (t.name=[])&&fS t 0 0 0 0
 else if t.kind=5 then ay t.name&&(decide (t.pkg=[])||ay t.pkg)&&fS t 0 0 0 0
 else if t.kind=6 then decide (t.name=[])&&decide (t.names.length<=4096)&&j8 t.names&&fS t t.names.length 0 t.names.length 1
 else if t.kind=7 then decide (t.name=[])&&decide (0<t.parts.length)&&fS t 0 0 0 t.parts.length
 else if t.kind=8 then decide (t.name=[])&&j8 t.names&&fS t t.names.length 0 0 t.names.length
 else if t.kind=9∨t.kind=10 then ay t.name&&fS t 0 0 0 1
 else if t.kind=11 then decide (t.name=[])&&fS t 0 0 1 t.parts.length
 else if t.kind=12 then decide (t.name=[])&&fS t 0 0 1 3
 else if t.kind=13 then decide (t.name=[])&&j8 t.names&&t.vars.all ay&&fS t t.names.length t.names.length (t.names.length+1) (t.names.length+1)
 else if t.kind=14 then ay t.name&&fS t 0 0 0 2
 else if t.kind=15 then decide (t.name=[])&&fS t 0 0 1 1
 else if t.kind=16∨t.kind=17 then dh t.name&&fS t 0 0 0 1
 else false
def aV(t:Trm):Bool:=qh t&&vd t
mutual
def allT(f:Trm->Bool):Trm->Bool
 |⟨k,g,q,z,ns,vs,ss,ps,pp⟩=>f ⟨k,g,q,z,ns,vs,ss,ps,pp⟩&&allTL f ps
def allTL(f:Trm->Bool):List Trm->Bool
 |[]=>true
 |p::r=>allT f p&&allTL f r
end
theorem allT_eq(f:Trm->Bool)(t:Trm):allT f t=(f t&&allTL f t.parts):=by cases t;rw[allT]
theorem allTL_all(f:Trm->Bool):∀l:List Trm,allTL f l=l.all (allT f)
 |[]=>rfl
 |p::r=>by rw[Ny,<-allTL_all f r];rw[allTL]
def bR(t:Trm):Bool:=allT (fun x=>decide (x.names.length<=8796093022208)) t
theorem F2{t x:Trm}(h:bR t=true)(hx:x∈t.parts):bR x=true:=by unfold bR at h⊢;rw[allT_eq,MR,allTL_all]at h;exact N6.1 h.2 x hx
theorem BM{t:Trm}(h:bR t=true):t.names.length<=8796093022208:=by unfold bR at h;rw[allT_eq,MR]at h;exact Xo h.1
def cY(t:Trm):Int:=
 if 4096<(countT t 4096).1 then 3 else if 40<(countT t 4096).2 then 91 else if allT aV t=true then 0 else 80
end Go.Pd
namespace Go.Pd
open Go.AL
theorem dnZ(n:Nat):decide ((n:Int)=0)=decide (n=0):=O1.2 (by omega)
theorem dn1(n:Nat):decide ((n:Int)=1)=decide (n=1):=O1.2 (by omega)
theorem dn2(n:Nat):decide ((n:Int)=2)=decide (n=2):=O1.2 (by omega)
theorem dn3(n:Nat):decide ((n:Int)=3)=decide (n=3):=O1.2 (by omega)
theorem dnN(n m:Nat):decide ((n:Int)=(m:Int))=decide (n=m):=O1.2 (by omega)
theorem dnS(n m:Nat):decide ((n:Int)=(m:Int)+1)=decide (n=m+1):=O1.2 (by omega)
theorem dnL(n:Nat):decide ((n:Int)<=4096)=decide (n<=4096):=O1.2 (by omega)
theorem dnP(n:Nat):decide ((0:Int)<(n:Int))=decide (0<n):=O1.2 (by omega)
theorem yM(s:Str)(k:Nat)(h:k<s.length):(cw s).getD k (dfl (Ty.int IntKind.u8))=bI (s.getD k 0):=by unfold cw;simp[MX,h,bI]
theorem F3(b:UInt8):iB b=false↔(bI b<32/\bI b≠10/\bI b≠9):=by unfold iB;simp only[Bool.not_eq_false',MR,MV,Nc,Ns];omega
end Go.Pd
end
section
namespace Go.Pd
open Go Go.AL Go.Lib
def dW(a b:Int):Int:=if a<b then -1 else if b<a then 1 else 0
def ki(a b:Str):Int:=if a<b then -1 else if b<a then 1 else 0
theorem Lw(a b:UInt8):a<b∨a=b∨b<a:=by
 rcases Qg a.toNat b.toNat with h|h|h
 ·exact .inl (UInt8.lt_iff_toNat_lt.2 h)
 ·exact .inr (.inl (UInt8.toNat_inj.1 h))
 ·exact .inr (.inr (UInt8.lt_iff_toNat_lt.2 h))
theorem yN:ki [] []=0:=by have h:¬([]:Str)<[]:=List.not_lt_nil _;unfold ki;rw[MS h,MS h]
theorem ua(b:UInt8)(y:Str):ki [] (b::y)=-1:=by unfold ki;rw[MT (List.nil_lt_cons b y)]
theorem ub(b:UInt8)(y:Str):ki (b::y) []=1:=by unfold ki;rw[MS (List.not_lt_nil _),MT (List.nil_lt_cons b y)]
theorem ve(a b:UInt8)(x y:Str):ki (a::x) (b::y)=if a<b then -1 else if b<a then 1 else ki x y:=by
 unfold ki;have ht:=Lw a b;rcases ht with h|h|h
 ·rw[MT h,MT (Oq.2 (.inl h))]
 ·subst h
  have e:∀x y:Str,a::x<a::y↔x<y:=fun x y=>by
   rw[Oq];constructor
   ·rintro(h|h)
    ·exact absurd h (OT a)
    ·exact h.2
   ·exact fun h=>.inr ⟨rfl,h⟩
  simp only[e,MS (OT a)]
 ·have h2:¬a<b:=fun e=>OT a (UInt8.lt_trans e h)
  have h3:¬a::x<b::y:=fun e=>by
   rcases Oq.1 e with e|e
   ·exact h2 e
   ·rw[e.1]at h;exact OT b h
  rw[MS h2,MT h,MS h3,MT (Oq.2 (.inl h))]
theorem sR:∀a b:Str,compareBytes a b=ki a b
 |[],[]=>by rw[yN];rfl
 |[],b::y=>by rw[ua];rfl
 |b::y,[]=>by rw[ub];rfl
 |a::x,b::y=>by rw[ve,compareBytes,sR x y]
theorem vf(a:Int):dW a a=0:=by unfold dW;rw[MS (Int.lt_irrefl a),MS (Int.lt_irrefl a)]
theorem pq:∀s:Str,ki s s=0
 |[]=>yN
 |a::x=>by rw[ve,MS (OT a),MS (OT a),pq x]
def cG(s:Str):Str:=s.dropWhile fun b=>decide (b=48)
def F4(a b:Str):Int:=if dW (cG a).length (cG b).length=0 then ki (cG a) (cG b)else dW (cG a).length (cG b).length
def mC(a b:Str):Int:=if bZ a=true then(if bZ b=true then F4 a b else -1)else if bZ b=true then 1 else ki a b
def kj:List Str->List Str->Int
 |a::l,b::m=>if mC a b=0 then kj l m else mC a b
 |l,m=>dW l.length m.length
def lD(a b:Vers):Int:=
 if ¬dW a.major b.major=0 then dW a.major b.major else if ¬dW a.minor b.minor=0 then dW a.minor b.minor else if ¬dW a.patch b.patch=0 then dW a.patch b.patch
 else if a.pre=[]then(if b.pre=[]then 0 else 1)else if b.pre=[]then -1 else kj (splitB 46 a.pre) (splitB 46 b.pre)
theorem F5(s:Str):mC s s=0:=by unfold mC F4;rw[vf,pq,pq];by_cases h:bZ s=true<;>simp[h]
theorem vg:∀l:List Str,kj l l=0
 |[]=>rfl
 |a::l=>by rw[kj,F5,MT rfl,vg l]
theorem F6(v:Vers):lD v v=0:=by unfold lD;simp only[vf,vg,not_true,Nt];split<;>rfl
theorem Hp(l:List Str):kj l []=dW l.length 0:=by cases l<;>rfl
theorem Hq(l:List Str):kj [] l=dW 0 l.length:=by cases l<;>rfl
theorem F7{l m:List Str}{k:Nat}(h1:k<l.length)(h2:k<m.length) :
  kj (l.drop k) (m.drop k)=if mC (l.getD k (dfl .str)) (m.getD k (dfl .str))=0 then kj (l.drop (k+1)) (m.drop (k+1))else mC (l.getD k (dfl .str)) (m.getD k (dfl .str)):=by
 rw[az l k (dfl .str) h1,az m k (dfl .str) h2,kj]
theorem Hr(a b k:Nat)(h1:k<=a)(h2:k<=b):dW ((a-k:Nat):Int) ((b-k:Nat):Int)=dW a b:=by
 unfold dW;have e1:((a-k:Nat):Int)<((b-k:Nat):Int)↔(a:Int)<b:=by omega
 have e2:((b-k:Nat):Int)<((a-k:Nat):Int)↔(b:Int)<a:=by omega
 simp only[e1,e2]
theorem Hs{l m:List Str}{k:Nat}(h1:k<=l.length)(h2:k<=m.length)(h:k=l.length∨k=m.length):kj (l.drop k) (m.drop k)=dW l.length m.length:=by
 rw[<-Hr l.length m.length k h1 h2];rcases h with rfl|rfl
 ·rw[Nj,Hq,P8,Q2];rfl
 ·rw[Nj,Hp,P8,Q2];rfl
def JU(p c:Int):Bool:=
 if p=1 then decide (c<0)else if p=2 then decide (c<=0)else if p=3 then decide (c=0)else if p=4 then decide (0<=c)else if p=5 then decide (0<c)else false
def JV(v:Vers)(b:Bnd):Bool:=JU b.op (lD v b.v)
theorem BN(p c:Int){N Y:Prop}(nx:JU p c=false->N)(yx:JU p c=true->Y) :
  if decide (p=1)=true then(if decide (0<=c)=true then N else Y)else if decide (p=2)=true then(if decide (0<c)=true then N else Y)else if decide (p=3)=true then(if(!decide (c=0))=true then N else Y)
  else if decide (p=4)=true then(if decide (c<0)=true then N else Y)else if decide (p=5)=true then(if decide (c<=0)=true then N else Y)else N:=by
 unfold JU at nx yx;apply aa<;>intro h
 ·rw[MT (Xo h)]at nx yx;exact aa (fun e=>nx (Xf (by have:=Xo e;omega))) (fun e=>yx (Xd (by have:¬0<=c:=fun k=>e (Xd k);omega)))
 rw[MS (fun e=>h (Xd e))]at nx yx;apply aa<;>intro h
 ·rw[MT (Xo h)]at nx yx;exact aa (fun e=>nx (Xf (by have:=Xo e;omega))) (fun e=>yx (Xd (by have:¬0<c:=fun k=>e (Xd k);omega)))
 rw[MS (fun e=>h (Xd e))]at nx yx;apply aa<;>intro h
 ·rw[MT (Xo h)]at nx yx;exact aa (fun e=>nx (Xf (by simpa using e))) (fun e=>yx (Xd (by simpa using e)))
 rw[MS (fun e=>h (Xd e))]at nx yx;apply aa<;>intro h
 ·rw[MT (Xo h)]at nx yx;exact aa (fun e=>nx (Xf (by have:=Xo e;omega))) (fun e=>yx (Xd (by have:¬c<0:=fun k=>e (Xd k);omega)))
 rw[MS (fun e=>h (Xd e))]at nx yx;apply aa<;>intro h
 ·rw[MT (Xo h)]at nx yx;exact aa (fun e=>nx (Xf (by have:=Xo e;omega))) (fun e=>yx (Xd (by have:¬c<=0:=fun k=>e (Xd k);omega)))
 rw[MS (fun e=>h (Xd e))]at nx yx;exact nx rfl
def dj(v:Vers)(l:List Bnd):Bool:=l.all (JV v)
def lE(b:Bnd):Bool:=decide (1<=b.op/\b.op<=5)&&decide (dx b.v=0)
def mD(l:List Bnd):Int:=if 20<l.length then 50 else if l.all lE=true then 0 else 50
def sS(n:Int):Str:=if n=1 then[60]else if n=2 then[60,61]else if n=3 then[61]else if n=4 then[62,61]else if n=5 then[62]else[]
theorem Ht(n:Int):sS n=[]↔¬(1<=n/\n<=5):=by
 unfold sS
 repeat' split
 all_goals simp
 all_goals omega
theorem sT{v:Vers}(h:dx v=0):v.pre.length<=24:=by
 unfold dx at h;split at h
 ·exact absurd h (by decide)
 ·split at h
  ·exact absurd h (by decide)
  ·omega
def orI:List Int->Int
 |[]=>0
 |a::l=>if a=0 then orI l else a
theorem BO{c:UInt8}{r:Str}(h:c=48):cG (c::r)=cG r:=by unfold cG;rw[PA,MT (Xd h)]
theorem BP{c:UInt8}{r:Str}(h:¬c=48):cG (c::r)=c::r:=by unfold cG;rw[PA,MS (fun e=>h (Xo e))]
theorem pr{a b:Int}(h:dW a b=0):a=b:=by
 unfold dW at h;split at h
 ·exact absurd h (by decide)
 ·split at h
  ·exact absurd h (by decide)
  ·omega
theorem vh{a b c:Int}:orI [a,b,c]=if ¬a=0 then a else if ¬b=0 then b else if ¬c=0 then c else 0:=by
 simp only[orI]
 repeat' split
 all_goals simp_all
theorem Hu{a b c:Int}:orI [a,b,c]=0↔a=0/\b=0/\c=0:=by
 rw[vh]
 repeat' split
 all_goals simp_all
def qi(a b:Vers):Int:=orI [dW a.major b.major,dW a.minor b.minor,dW a.patch b.patch]
theorem JW(a b:Vers):lD a b=if ¬qi a b=0 then qi a b else if a.pre=[]then(if b.pre=[]then 0 else 1)else if b.pre=[]then -1 else kj (splitB 46 a.pre) (splitB 46 b.pre):=by
 unfold lD qi;rw[vh];by_cases h1:dW a.major b.major=0
 ·by_cases h2:dW a.minor b.minor=0
  ·by_cases h3:dW a.patch b.patch=0
   ·simp only[h1,h2,h3,not_true,Nt]
   ·simp only[h1,h2,h3,not_true,Nt,OV,NU]
  ·simp only[h1,h2,not_true,Nt,OV,NU]
 ·simp only[h1,OV,NU]
theorem Hv{a b:Vers}(h:qi a b=0)(hp:a.pre=b.pre):a=b:=by obtain⟨h1,h2,h3⟩:=Hu.1 h;cases a;cases b;simp only at h1 h2 h3 hp;rw[pr h1,pr h2,pr h3,hp]
theorem JX{l:List Bnd}(h:l.all lE=false):(50:Int)=mD l:=by
 unfold mD;rw[h];split
 ·rfl
 ·rfl
theorem Hw{l:List Bnd}(hl:¬20<l.length)(h:l.all lE=true):(0:Int)=mD l:=by unfold mD;rw[h,MS hl,MT rfl]
end Go.Pd
end
section
namespace Go.AL.Seat
open Go Go.AL Go.Proofs Go.Shelf Go.Pd Go.RowKit
variable [Tabs]
theorem qj:ag Tryz.prog 249 (p2 .str .str fun a b=>.ret (.int .i64 (ki a b))):=by
 refine cP (aq.mk' Tryz.func249 (by kernel_rfl)) fun a b _ _ _=>?_;refine du fun w pub vs ht hv=>?_;obtain⟨rfl,l1,l2⟩:=VL.two_str hv;refine(Any.strings_Compare Tryz.lays106 _ _ w).mono ?_;rintro en w' ⟨rfl,rfl⟩;refine⟨⟨_,rfl,fun Ω=>?_⟩,Below.refl _ _⟩;have e2:Lib.compareBytes (⟨a.toArray⟩:ByteArray).data.toList (⟨b.toArray⟩:ByteArray).data.toList=ki a b:=sR a b;rw[e2];unfold ki;split
 ·exact .int _ _ (by decide) (by decide)
 ·split
  ·exact .int _ _ (by decide) (by decide)
  ·exact .int _ _ (by decide) (by decide)
end Go.AL.Seat
end
section
namespace Go.Proofs
open Go.Shelf
def Tryz.lays173_ren:Go.Shelf.Ren:=⟨fun|173=>189|246=>244|283=>278|284=>279|285=>280|286=>281|129=>142|317=>312|318=>313|319=>314|320=>315|337=>327|338=>328|n=>n,fun|2=>2|3=>3|9=>9|4=>4|171=>320|0=>0|53=>232|37=>263|5=>5|173=>322|212=>343|51=>230|20=>20|213=>344|46=>178|232=>362|233=>363|n=>n,fun|17=>5|18=>6|19=>7|n=>n⟩
theorem Tryz.lays173:Go.Proofs.LaysM.n173 Tryz.prog Tryz.lays173_ren:={
 mixed:=by kernel_rfl
 f129:=Xt Tryz.func142
 f173:=Xt Tryz.func189
 f246:=Xt Tryz.func244
 f283:=Xt Tryz.func278
 f284:=Xt Tryz.func279
 f285:=Xt Tryz.func280
 f286:=Xt Tryz.func281
 f317:=Xt Tryz.func312
 f318:=Xt Tryz.func313
 f319:=Xt Tryz.func314
 f320:=Xt Tryz.func315
 f337:=Xt Tryz.func327
 f338:=Xt Tryz.func328
 t0:=Tryz.underlying0
 a0:=Tryz.isAgg0
 z0:=Tryz.sizeOf0
 v0:=Tryz.zeroValue0
 t2:=Tryz.underlying2
 a2:=Tryz.isAgg2
 z2:=Tryz.sizeOf2
 v2:=Tryz.zeroValue2
 t3:=Tryz.underlying3
 a3:=Tryz.isAgg3
 z3:=Tryz.sizeOf3
 v3:=Tryz.zeroValue3
 t4:=Tryz.underlying4
 a4:=Tryz.isAgg4
 z4:=Tryz.sizeOf4
 v4:=Tryz.zeroValue4
 t5:=Tryz.underlying5
 a5:=Tryz.isAgg5
 z5:=Tryz.sizeOf5
 v5:=Tryz.zeroValue5
 t9:=Tryz.underlying9
 a9:=Tryz.isAgg9
 z9:=Tryz.sizeOf9
 v9:=Tryz.zeroValue9
 t20:=Tryz.underlying20
 a20:=Tryz.isAgg20
 z20:=Tryz.sizeOf20
 v20:=Tryz.zeroValue20
 t37:=Tryz.underlying263
 a37:=Tryz.isAgg263
 z37:=Tryz.sizeOf263
 v37:=Tryz.zeroValue263
 t46:=Tryz.underlying178
 a46:=Tryz.isAgg178
 z46:=Tryz.sizeOf178
 v46:=Tryz.zeroValue178
 t51:=Tryz.underlying230
 a51:=Tryz.isAgg230
 z51:=Tryz.sizeOf230
 v51:=Tryz.zeroValue230
 t53:=Tryz.underlying232
 a53:=Tryz.isAgg232
 z53:=Tryz.sizeOf232
 v53:=Tryz.zeroValue232
 t171:=Tryz.underlying320
 a171:=Tryz.isAgg320
 z171:=Tryz.sizeOf320
 v171:=Tryz.zeroValue320
 t173:=Tryz.underlying322
 a173:=Tryz.isAgg322
 z173:=Tryz.sizeOf322
 v173:=Tryz.zeroValue322
 t212:=Tryz.underlying343
 a212:=Tryz.isAgg343
 z212:=Tryz.sizeOf343
 v212:=Tryz.zeroValue343
 t213:=Tryz.underlying344
 a213:=Tryz.isAgg344
 z213:=Tryz.sizeOf344
 t232:=Tryz.underlying362
 a232:=Tryz.isAgg362
 z232:=Tryz.sizeOf362
 v232:=Tryz.zeroValue362
 t233:=Tryz.underlying363
 a233:=Tryz.isAgg363
 z233:=Tryz.sizeOf363
 v233:=Tryz.zeroValue363
 g17:=by kernel_rfl
 g18:=by kernel_rfl
 g19:=by kernel_rfl
 i0:=by kernel_rfl
 i2:=by kernel_rfl
 i3:=by kernel_rfl
 i4:=by kernel_rfl
 i5:=by kernel_rfl
 i9:=by kernel_rfl
 i20:=by kernel_rfl
 i37:=by kernel_rfl
 i46:=by kernel_rfl
 i51:=by kernel_rfl
 i53:=by kernel_rfl
 i171:=by kernel_rfl
 i173:=by kernel_rfl
 i212:=by kernel_rfl
 i232:=by kernel_rfl
 i233:=by kernel_rfl
 m17:=by kernel_rfl
 m18:=by kernel_rfl
 m19:=by kernel_rfl}
end Go.Proofs
end
section
namespace Go.AL
variable [Tabs]
open Go.Proofs Go.Shelf Go.RowKit
variable {P:Program} {ρ:Ren}
def wG(g:Nat):Prop:=∃t fz,Tabs.obj g (.cells (Lib.pow10Tab.map fun z=>Value.int .u64 z).toArray t fz)
end Go.AL
end
section
namespace Go.AL
variable [Tabs]
open Go.Proofs Go.Shelf Go.RowKit
variable {P:Program} {ρ:Ren}
theorem sU{f g:Nat}(L:LaysM.n173 P ρ)(hg:P.globalNamed "internal/strconv.uint64pow10"=some g)(hp:wG g)(hf:ρ.f 173=f)(he:aq P f) :
  ag P f (p2 (.int .i64) (.int .i64) fun n b=>⟨some (b=10/\(Lib.itoa n).length<=1000),none,.str (Lib.itoa n),[]⟩):=by
 subst hf;refine cP he fun n b _ _ ho=>?_;obtain⟨rfl,hl⟩:=ho _ rfl;obtain⟨t,fz,hb⟩:=hp;refine du fun w pub vs ht hv=>?_;obtain⟨v,u,rfl,hv,hu⟩:=VL.two_inv hv
 cases hv with
 |int _ _ h0 h1=>
 cases hu with
 |int _ _ _ _=>
 have htab:Lib.TabIs P w "internal/strconv.uint64pow10" .u64 Lib.pow10Tab:=by unfold Lib.TabIs World.var?;rw [hg];show (match w.heap[g]? with | some (.cells cs _ _)=>some cs | _=>none)=_;rw [(ht.2 g _ hb).1]
 refine(Any.strconv_FormatInt_10 L n h0 h1 w htab).mono ?_;rintro en w' ⟨rfl,k,os,rfl⟩;exact⟨⟨_,rfl,fun Ω=>.str _ (NZ hl (by unfold aY;decide))⟩,Lib.below_grow _ w (N8 _) k os⟩
end Go.AL
end
section
namespace Go.AL.Seat
open Go Go.AL Go.Proofs Go.Shelf Go.Pd
variable [Tabs]
class SeatPow[Tabs]:Prop where
 pow:wG 5
variable [SeatPow]
theorem uc:ag Tryz.prog 189 (p2 (.int .i64) (.int .i64) fun n b=>⟨some (b=10/\(Lib.itoa n).length<=1000),none,.str (Lib.itoa n),[]⟩):=sU Tryz.lays173 (by kernel_rfl) SeatPow.pow rfl (aq.mk' Tryz.func189 (by kernel_rfl))
end Go.AL.Seat
end
noncomputable section
namespace Go.AL
variable [Tabs]
open Go.Proofs Go.RowKit Go.Maps Go.Sort Go.Shelf Go.Lib
variable {P:Program} {ρ:Ren}
theorem ud(F:Array Value)(w:World)(b:Nat){vs:Array Value}{ty:Nat}{fz:Nat×Nat}(h:w.heap[b]?=some (.cells vs ty fz)) :
  ∃us:Array Value,(putRow id w b 0 F).heap[b]?=some (.cells us ty fz)/\us.size=vs.size:=by
 unfold putRow mapBlock;simp only[O4,NU,h,O6,onCells];exact⟨_,rfl,by simp[putCells]⟩
theorem After.growK{α:Type}[Inhabited α](enc:α->List Value){w:World}{pub:Nat->Nat->Prop}{e:Nat->Option CObj}{S:List (Nat×SObj)}{τ:Ty}
 (hp:kB w pub)(hs:∀id o,aj S id=some o->b8 ⟨e,w,pub⟩ (fun _ _=>True) id o)(hd:∀id,aj S id=none->e id=none)(hi:Inj e)
 {k b s cap m:Nat}{xs ys:List (den τ)}{d0 d:Array α}{gs:Array Obj}(hk:aj S k=some (.grow τ s xs))(he:e k=some (.tail s (some b) cap))(hl:ys.length=xs.length)
 (hH:HoldsK enc (ab τ) w b 0 d0)(h0:d0.size=xs.length)(h1:d.size=xs.length)(henc:∀x,(enc x).length=ab τ)
 (hv:∀(i:Nat)(y:den τ),ys[i]?=some y->VL ⟨e,w,pub⟩ (cells τ y) (enc d[i]!)) :
  After w pub e (aj (bO S [(k,.grow τ s ys)])) (Go.Sort.grow (putRowK enc (ab τ) (Sort.ahead w m) b 0 d) gs) (fun b o=>pub b o∨False) (fun i=>if k=i then some (.tail s (some b) cap)else e i):=by
 obtain⟨base,cap',e1,e2,e3,e4,e5⟩:=hs k _ hk;have e1:e k=some (.tail s base cap'):=e1;rw[he]at e1;simp only[Xs,CObj.tail.injEq,O9]at e1;obtain⟨rfl,rfl⟩:=e1;obtain⟨hown,⟨vs,ty,fz,hheap,hfz,hfit⟩,hpub,hcell⟩:=e5 b rfl;have hheap:w.heap[b]?=some (.cells vs ty fz):=hheap;have hb:b<w.heap.size:=bu hheap;have hsz:(putRowK enc (ab τ) (Sort.ahead w m) b 0 d).heap.size=w.heap.size:=by simp[putRowK]
 have old:∀j,j<w.heap.size->(Go.Sort.grow (putRowK enc (ab τ) (Sort.ahead w m) b 0 d) gs).heap[j]?=(putRowK enc (ab τ) (Sort.ahead w m) b 0 d).heap[j]?:=by intro j hj;unfold Go.Sort.grow;simp only;rw[Array.getElem?_append_left (by rw[hsz];exact hj)]
 have other:∀j,j<w.heap.size->j≠b->(Go.Sort.grow (putRowK enc (ab τ) (Sort.ahead w m) b 0 d) gs).heap[j]?=w.heap[j]?:=by intro j hj hne;rw[old j hj];exact qc id (Sort.ahead w m) b (flatK enc (ab τ) d) j (.inl hne)
 obtain⟨us,hus,husz⟩:=ud (flatK enc (ab τ) d) (Sort.ahead w m) b (vs:=vs) (ty:=ty) (fz:=fz) hheap;have hus':(Go.Sort.grow (putRowK enc (ab τ) (Sort.ahead w m) b 0 d) gs).heap[b]?=some (.cells us ty fz):=by rw[old b hb];exact hus
 have inE:∀o,sC e k b o:=fun o=>⟨_,he,rfl⟩;have notE:∀{b' o},¬sC e k b' o->b'≠b:=fun h q=>h (q ▸ inE _);have pubne:∀b' o,pub b' o->b'≠b:=fun b' o h q=>hpub o (q ▸ h)
 refine After.slot hp hs hd hi (Q:=fun _ _=>False) rfl rfl rfl (by simp[Go.Sort.grow,putRowK]) (fun b' h1 h2=>other b' h1 (notE (h2 0))) (fun b' o h1 h2=>ai (other b' h1 (notE h2)) o) (fun b' h1 h2=>?_)
  (fun b' o h=>ai (other b' (by obtain⟨v,hv⟩:=hp b' o h;exact aS hv) (pubne b' o h)) o) (fun _ _ h=>h.elim) (fun c0 h=>?_) (fun b' o h=>?_) (fun hx=>?_)
 ·have hne:b'≠b:=fun q=>h2 fun o=>q ▸ inE o;have:=other b' h1 hne;exact⟨aR this,fun o=>aK this o⟩
 ·rw[he]at h;cases h;simp[CLe]
 ·exact .inr ⟨_,he,h⟩
 ·refine⟨some b,cap,by simp,by rw[hl];exact e2,e3,by simp,fun b' hb'=>?_⟩;simp only[Xs]at hb';subst hb';refine⟨fun o=>.inr ⟨k,_,he,rfl⟩,⟨us,ty,fz,hus',hfz,by rw[husz];exact hfit⟩,fun o h=>?_,fun j c hc=>?_⟩
  ·rcases h with h|h
   ·exact hpub o h
   ·exact h
  ·have hjl:j<ys.length *ab τ:=by
    rw[<-aL];rcases MY j (flat τ ys).length with q|q
    ·exact q
    ·rw[MU q]at hc;cases hc
   have hfl:(flatK enc (ab τ) d).size=ys.length *ab τ:=by rw[size_flatK,h1,hl]
   have hcl:=cell?_putRow id (Sort.ahead w m) b 0 (flatK enc (ab τ) d0) (flatK enc (ab τ) d) (show Go.Sort.Holds id (Sort.ahead w m) b 0 (flatK enc (ab τ) d0)from hH) (by rw[size_flatK,size_flatK,h0,h1]) j (by rw[hfl];exact hjl);rw[NY]at hcl;obtain⟨i,x,j2,q1,q2,q3,q4⟩:=l0 τ _ j c hc;have hpos:0<ab τ:=by omega
   have hdiv:j/ab τ=i:=by rw[q3,OE,Nat.mul_add_div hpos,Nat.div_eq_of_lt q4,Ov]
   have hmod:j%ab τ=j2:=by rw[q3,OE,PX,PM q4]
   have hg:(flatK enc (ab τ) d)[j]! =(enc d[i]!)[j2]!:=by rw[get_flatK enc (ab τ) d j (by rw[h1,<-hl];exact hjl),hdiv,hmod]
   refine⟨(enc d[i]!)[j2]!,?_,?_⟩
   ·rw[ai (old b hb) j];show(putRow id (Sort.ahead w m) b 0 (flatK enc (ab τ) d)).cell? ⟨b,j,none⟩=_;rw[hcl,<-hg];rfl
   ·have hjj:j2<(enc d[i]!).length:=by rw[henc];exact q4
    exact((hv i x q1).2 j2 c _ q2 (by rw[MQ hjj,Pp _ j2 hjj])).ext hx
def Lx(P:Program)(g k q:Nat)(cf:Str->Str->Int):Prop:=
 ∀(W:World)(xs ys:List Value)(a b:Str),xs.length=k->ys.length=k->(∀v∈xs,v.oneCell'=true)->(∀v∈ys,v.oneCell'=true)->xs[q]?=some (.string ⟨a.toArray⟩)->ys[q]?=some (.string ⟨b.toArray⟩)->
  Calls P g #[.agg xs.toArray,.agg ys.toArray] W fun e w'=>e=.returned (.int .i64 (cf a b))/\∃m os',w'=Go.Sort.grow (W.drewN m) os'
def lF{β:Type}(key:β->Str)(xs:List β):List β:=xs.mergeSort fun a b=>decide (key a<=key b)
theorem F8{β:Type}{key:β->Str}{xs ys:List β}(hnd:(xs.map key).Nodup)(hp:ys.Perm xs)(hs:ys.Pairwise fun a b=>key a<=key b):ys=lF key xs:=by
 have tr:∀a b c:β,decide (key a<=key b)=true->decide (key b<=key c)=true->decide (key a<=key c)=true:=fun a b c h1 h2=>by simp only[MV]at *;exact List.le_trans h1 h2
 have tot:∀a b:β,(decide (key a<=key b)||decide (key b<=key a))=true:=fun a b=>by simp only[NO,MV];exact List.le_total _ _
 have inj:∀a b,a∈xs->b∈xs->key a=key b->a=b:=fun a b ha hb h=>by
  obtain⟨i,hi,rfl⟩:=Px ha;obtain⟨j,hj,rfl⟩:=Px hb;rw[Pm,OF]at hnd;rcases Qg i j with q|q|q
  ·exact absurd (by rw[PN,PN];exact h) (hnd i j (by simpa using hi) (by simpa using hj) q)
  ·subst q;rfl
  ·exact absurd (by rw[PN,PN];exact h.symm) (hnd j i (by simpa using hj) (by simpa using hi) q)
 refine List.Perm.eq_of_pairwise (le:=fun a b=>key a<=key b) (fun a b ha hb h1 h2=>?_) hs ?_ (hp.trans (List.mergeSort_perm xs _).symm)
 ·exact inj a b (hp.mem_iff.1 ha) (Qb.1 (show b∈xs.mergeSort _ from hb)) (List.le_antisymm h1 h2)
 ·have:=List.pairwise_mergeSort tr tot xs;exact this.imp fun h=>by simpa using h
abbrev Raw(Ω:Om)(τ:Ty):Type:={p:den τ×List Value // VL Ω (cells τ p.1) p.2}
theorem raws{Ω:Om}{τ:Ty}{b:Nat}:∀(xs:List (den τ))(o:Nat),(∀(j:Nat)(c:AV),(flat τ xs)[j]?=some c->∃v,Ω.w.cell? ⟨b,o+j,none⟩=some v/\V Ω c v)->
  ∃ps:List (Raw Ω τ),ps.map (fun p=>p.1.1)=xs/\∀(i j:Nat)(p:Raw Ω τ),ps[i]?=some p->j<ab τ->Ω.w.cell? ⟨b,o+(i *ab τ+j),none⟩=p.1.2[j]?
 |[],o,h=>⟨[],rfl,fun i j p hp=>by simp at hp⟩
 |x::r,o,h=>by
  have hf:flat τ (x::r)=cells τ x++flat τ r:=by simp[flat]
  have hw:(cells τ x).length=ab τ:=aJ τ x
  obtain⟨ps,h1,h2⟩:=raws r (o+ab τ) (fun j c hc=>by
   obtain⟨v,v1,v2⟩:=h (ab τ+j) c (by rw[hf,N1 (by omega),hw,P5];exact hc);exact⟨v,by rw[show o+ab τ+j=o+(ab τ+j) by omega];exact v1,v2⟩)
  have hc:∀j,j<ab τ->∃v,Ω.w.cell? ⟨b,o+j,none⟩=some v:=fun j hj=>by obtain⟨v,v1,_⟩:=h j _ (by rw[hf,MZ (by omega),MQ (by omega)]);exact⟨v,v1⟩
  refine⟨⟨(x,(List.range (ab τ)).map fun j=>(Ω.w.cell? ⟨b,o+j,none⟩).getD undef),⟨by simp[hw],fun j c v hc1 hv=>?_⟩⟩::ps,by simp[h1],fun i j p hp hj=>?_⟩
  ·have hj:j<ab τ:=by
    rw[<-hw];rcases MY j (cells τ x).length with q|q
    ·exact q
    ·rw[MU q]at hc1;cases hc1
   obtain⟨u,u1,u2⟩:=h j c (by rw[hf,MZ (by omega)];exact hc1);simp[hj,u1]at hv;subst hv;exact u2
  ·cases i with
   |zero=>simp at hp;subst hp;obtain⟨v,hv⟩:=hc j hj;simp[hj,hv]
   |succ i=>have:=h2 i j p (by simpa using hp) hj;rw[<-this,show o+((i+1) *ab τ+j)=o+ab τ+(i *ab τ+j) by rw[NC];omega]
set_option maxHeartbeats 2000000 in
theorem ue(L:SlLaysF0.n6 P ρ){τ:Ty}{g:Nat}(aE:∀w,(isAgg (ρ.t 24)).run P w=.ok true w)(zE:∀w,(Go.sizeOf (ρ.t 24)).run P w=.ok (ab τ) w)
 (eg:∀args w,(callFunc g args).run P w=.ok (.enter g args) w){q:Nat}(key:den τ->Str)(hkey:∀x,(cells τ x)[q]?=some (.str (key x)))(cf:Str->Str->Int)(hcf:∀a b:Str,decide (cf a b<0)=ltStr a b)(C:Lx P g (ab τ) q cf)
 (s n:Nat)(xs:List (den τ))(hn:n=xs.length)(hnd:(xs.map key).Nodup)(hbig:xs.length<4611686018427387904)(ob:Option Prop) :
  an P (ρ.f 6) [.glst s n 900,.fn g []] [(900,.grow τ s xs)] ⟨ob,none,.tup [],[(900,.grow τ s (lF key xs))]⟩:=by
 subst hn;intro w pub e vs hp ht hv hs hd hi;obtain⟨v1,v2,rfl,h1,h2⟩:=VL.two_inv hv;obtain⟨us,rfl,hus⟩:=h2.fn_inv;obtain rfl:us=[]:=N5 hus.1.symm;obtain⟨cap,a0,rfl,hc1,hc2,hc3,m0,base,c0,r1,r2,r3⟩:=h1.glst_inv;obtain⟨base',cap',e1,e2,e3,e4,e5⟩:=hs 900 _ rfl;have e1:e 900=some (.tail s base' cap'):=e1;have r1:e 900=some (.tail m0 base c0):=r1;rw[e1]at r1;simp only[Xs,CObj.tail.injEq]at r1;obtain⟨rfl,rfl,rfl⟩:=r1;obtain⟨rfl,rfl⟩:=r3 rfl
 cases base' with
 |none=>
  have hz:xs.length=0:=by
   rcases hc3 with⟨b,hb⟩|⟨_,h,_⟩
   ·simp[cO]at hb
   ·exact h
  have hxs:xs=[]:=N5 hz;subst hxs;refine(AnyF.slices_SortFunc_none L _ _ _ w).mono ?_;rintro en w' ⟨rfl,rfl⟩;refine⟨_,_,fun _ _ _ h=>(by cases h),.tup [] [] rfl (fun j c v hc=>by simp at hc),After.slot (c:=.tail s none cap) (Q:=fun _ _=>False) hp hs hd hi rfl rfl rfl (N8 _) (fun _ _ _=>rfl) (fun _ _ _ _=>rfl) (fun _ _ _=>⟨rfl,fun _=>rfl⟩) (fun _ _ _=>rfl) (fun _ _ h=>h.elim) (fun c1 h=>?_) (fun b o h=>?_) (fun hx=>?_)⟩
  ·rw[show e 900=_ from e1]at h;cases h;simp[CLe]
  ·exact .inr ⟨_,e1,h⟩
  ·exact⟨none,cap,by simp,by simp[lF],e3,e4,fun b hb=>by cases hb⟩
 |some b=>
  obtain⟨hown,⟨ws,ty,fz,hheap,hfz,hfit⟩,hpub,hcell⟩:=e5 b rfl;have hheap:w.heap[b]?=some (.cells ws ty fz):=hheap;have hb:b<w.heap.size:=bu hheap;by_cases hxs:xs=[]
  ·subst hxs;refine(AnyF.slices_SortFunc_none L _ _ _ w).mono ?_;rintro en w' ⟨rfl,rfl⟩;refine⟨_,_,fun _ _ _ h=>(by cases h),.tup [] [] rfl (fun j c v hc=>by simp at hc),After.slot (c:=.tail s (some b) cap) (Q:=fun _ _=>False) hp hs hd hi rfl rfl rfl (N8 _) (fun _ _ _=>rfl) (fun _ _ _ _=>rfl) (fun _ _ _=>⟨rfl,fun _=>rfl⟩) (fun _ _ _=>rfl) (fun _ _ h=>h.elim) (fun c1 h=>?_) (fun b o h=>?_) (fun hx=>?_)⟩
   ·rw[show e 900=_ from e1]at h;cases h;simp[CLe]
   ·exact .inr ⟨_,e1,h⟩
   ·refine⟨some b,cap,by simp,by simp[lF],e3,by simp,fun b' hb'=>?_⟩;simp only[Xs]at hb';subst hb';refine⟨fun o=>.inr ⟨900,_,e1,rfl⟩,⟨ws,ty,fz,hheap,hfz,hfit⟩,fun o h=>?_,fun j c hc=>by simp[lF,flat]at hc⟩;rcases h with h|h
    ·exact hpub o h
    ·exact h
  ·obtain⟨ps,hps,hpc⟩:=raws (Ω:=⟨e,w,pub⟩) (b:=b) xs 0 (fun j c hc=>by rw[NY];exact hcell j c hc);have hpl:ps.length=xs.length:=by rw[<-hps];simp
   haveI:Inhabited (Raw ⟨e,w,pub⟩ τ):=⟨ps[0]'(by rw[hpl];exact Oo.2 hxs)⟩
   have hlen:∀x:Raw ⟨e,w,pub⟩ τ,x.1.2.length=ab τ:=fun x=>by have:=x.2.1;rw[aJ]at this;exact this.symm
   have hone:∀x:Raw ⟨e,w,pub⟩ τ,∀v∈x.1.2,v.oneCell'=true:=fun x=>x.2.leaf_one (jL τ x.1.1)
   have hstr:∀x:Raw ⟨e,w,pub⟩ τ,x.1.2[q]?=some (.string ⟨(key x.1.1).toArray⟩):=fun x=>by
    have hq:q<x.1.2.length:=by
     rw[hlen,<-aJ τ x.1.1];rcases MY q (cells τ x.1.1).length with h|h
     ·exact h
     ·have:=hkey x.1.1;rw[MU h]at this;cases this
    have:=x.2.2 q _ _ (hkey x.1.1) (MQ hq);rw[MQ hq,this.str_inv.1]
   have hH:HoldsK (fun x:Raw ⟨e,w,pub⟩ τ=>x.1.2) (ab τ) w b 0 ps.toArray:=by
    intro j hj;rw[size_flatK]at hj;have hj:j<ps.length *ab τ:=by simpa using hj
    have hpos:0<ab τ:=by
     rcases Ox (ab τ)with z|z
     ·rw[z]at hj;simp at hj
     ·exact z
    have hi2:j/ab τ<ps.length:=(Nat.div_lt_iff_lt_mul hpos).2 hj;have hm:j%ab τ<ab τ:=Qo _ hpos;have hjm:j/ab τ *ab τ+j%ab τ=j:=by rw[OE];exact PW _ _
    have h3:=hpc (j/ab τ) (j%ab τ) ps[j/ab τ] (MQ hi2) hm;rw[hjm,MQ (by rw[hlen];exact hm)]at h3;refine⟨?_,?_⟩
    ·rw[get_flatK _ _ _ j (by simpa using hj)];rw[show w.cell? ⟨b,0+j,none⟩=_ from h3];have e7:ps.toArray[j/ab τ]! =ps[j/ab τ]:=by rw[Pp ps.toArray _ (by simpa using hi2)];simp
     rw[e7,Pp _ _ (by rw[hlen];exact hm)];rfl
    ·unfold World.frozen?;simp only[hheap,hfz];simp
   have hO:SWO (ltOf fun x y:Raw ⟨e,w,pub⟩ τ=>cf (key x.1.1) (key y.1.1)):=by have e9:∀x y,ltOf (fun x y:Raw ⟨e,w,pub⟩ τ=>cf (key x.1.1) (key y.1.1)) x y=ltStr (key x.1.1) (key y.1.1):=fun x y=>hcf _ _;exact⟨fun i=>by rw[e9];exact swo_ltStr.irrefl _,fun i j k h1 h2=>by rw[e9]at *;exact swo_ltStr.trans _ _ _ h1 h2,fun i j k h1 h2=>by rw[e9]at *;exact swo_ltStr.ntrans _ _ _ h1 h2⟩
   have hcmp:CmpLays P g #[] (fun x:Raw ⟨e,w,pub⟩ τ=>x.1.2) (ab τ) (fun x y=>cf (key x.1.1) (key y.1.1)) b 0 ps.toArray.size w:=by intro m os dk _ x y;have:=C (sortWorldK (fun x:Raw ⟨e,w,pub⟩ τ=>x.1.2) (ab τ) w b 0 m dk os) x.1.2 y.1.2 _ _ (hlen x) (hlen y) (hone x) (hone y) (hstr x) (hstr y);simpa using this
   have hsz:ps.toArray.size=xs.length:=by simp[hpl]
   have hcall:=AnyQ.slices_SortFunc L (ab τ) aE zE (fun x:Raw ⟨e,w,pub⟩ τ=>x.1.2) hlen hone (fun x y=>cf (key x.1.1) (key y.1.1)) hO g #[] b 0 cap ps.toArray w eg hcmp hH hb (by rw[hsz];exact hbig);rw[hsz]at hcall;refine hcall.mono ?_;rintro en w' ⟨rfl,d',n,os,⟨hds,_,hperm⟩,hsort,rfl⟩;have hd':d'.size=xs.length:=by rw[hds,hsz]
   have hys:d'.toList.map (fun x=>x.1.1)=lF key xs:=by
    refine F8 hnd ?_ ?_
    ·rw[<-hps];refine List.Perm.map _ ?_;have q1:d'.extract 0 xs.length=d':=by rw[<-hd'];simp
     have q2:ps.toArray.extract 0 xs.length=ps.toArray:=by rw[<-hsz];simp
     rw[q1,q2]at hperm;simpa using hperm
    ·rw[Pg,OF];intro i j hi hj hij;have hi':i<d'.size:=by simpa using hi
     have hj':j<d'.size:=by simpa using hj
     have h6:=hsort i j (N2 _) hij (by omega);unfold ltOf at h6;rw[hcf]at h6;have h3:¬(key d'[j]!.1.1<key d'[i]!.1.1):=by simpa[ltStr]using h6
     have:=List.not_lt.1 h3;simp only[Pp d' j hj',Pp d' i hi']at this;simpa using this
   refine⟨_,_,fun _ _ _ h=>(by cases h),.tup [] [] rfl (fun j c v hc=>by simp at hc),After.growK (m:=n) (gs:=os) (ys:=lF key xs) (fun x:Raw ⟨e,w,pub⟩ τ=>x.1.2) (d0:=ps.toArray) (d:=d') hp hs hd hi rfl e1 (by simp[lF]) hH hsz hd' hlen (fun i y hy=>?_)⟩;rw[<-hys,Np]at hy;obtain⟨x,hx,rfl⟩:=N3.1 hy;have hi':i<d'.size:=by have:=(Nw.1 hx).1;simpa using this
   have:d'[i]! =x:=by rw[Pp d' i hi'];have:=(Nw.1 hx).2;simpa using this
   rw[this];exact x.2
end Go.AL
end
section
namespace Go.Proofs
open Go.Shelf
def Tryz.sortf_ren:Go.Shelf.Ren:=⟨fun|6=>36|15=>76|14=>75|28=>141|29=>142|20=>133|21=>134|22=>135|23=>136|24=>137|25=>138|26=>139|27=>140|46=>202|47=>203|48=>204|49=>205|50=>206|57=>258|n=>n,fun|22=>69|24=>77|25=>122|3=>3|39=>178|0=>0|53=>230|55=>232|4=>4|46=>223|45=>222|50=>227|5=>5|9=>9|66=>279|70=>125|76=>303|77=>157|n=>n,fun|n=>n⟩
theorem Tryz.sortf:Go.Proofs.SlLaysF0.n6 Tryz.prog Tryz.sortf_ren:={
 mixed:=by kernel_rfl
 f6:=⟨Tryz.f36.name,by decide,Xt Tryz.func36⟩
 f14:=⟨Tryz.f75.name,by decide,Xt Tryz.func75⟩
 f15:=Xt Tryz.func76
 f20:=⟨Tryz.f133.name,by decide,Xt Tryz.func133⟩
 f21:=⟨Tryz.f134.name,by decide,Xt Tryz.func134⟩
 f22:=⟨Tryz.f135.name,by decide,Xt Tryz.func135⟩
 f23:=⟨Tryz.f136.name,by decide,Xt Tryz.func136⟩
 f24:=⟨Tryz.f137.name,by decide,Xt Tryz.func137⟩
 f25:=⟨Tryz.f138.name,by decide,Xt Tryz.func138⟩
 f26:=⟨Tryz.f139.name,by decide,Xt Tryz.func139⟩
 f27:=⟨Tryz.f140.name,by decide,Xt Tryz.func140⟩
 f28:=Xt Tryz.func141
 f29:=Xt Tryz.func142
 f46:=⟨Tryz.f202.name,by decide,Xt Tryz.func202⟩
 f47:=Xt Tryz.func203
 f48:=Xt Tryz.func204
 f49:=⟨Tryz.f205.name,by decide,Xt Tryz.func205⟩
 f50:=⟨Tryz.f206.name,by decide,Xt Tryz.func206⟩
 f57:=⟨Tryz.f258.name,by decide,Xt Tryz.func258⟩
 t0:=Tryz.underlying0
 a0:=Tryz.isAgg0
 z0:=Tryz.sizeOf0
 v0:=Tryz.zeroValue0
 t3:=Tryz.underlying3
 a3:=Tryz.isAgg3
 z3:=Tryz.sizeOf3
 v3:=Tryz.zeroValue3
 t4:=Tryz.underlying4
 a4:=Tryz.isAgg4
 z4:=Tryz.sizeOf4
 v4:=Tryz.zeroValue4
 t5:=Tryz.underlying5
 a5:=Tryz.isAgg5
 z5:=Tryz.sizeOf5
 v5:=Tryz.zeroValue5
 t9:=Tryz.underlying9
 a9:=Tryz.isAgg9
 z9:=Tryz.sizeOf9
 v9:=Tryz.zeroValue9
 t22:=Tryz.underlying69
 a22:=Tryz.isAgg69
 z22:=Tryz.sizeOf69
 v22:=Tryz.zeroValue69
 t25:=Tryz.underlying122
 a25:=Tryz.isAgg122
 z25:=Tryz.sizeOf122
 v25:=Tryz.zeroValue122
 t39:=Tryz.underlying178
 a39:=Tryz.isAgg178
 z39:=Tryz.sizeOf178
 v39:=Tryz.zeroValue178
 t45:=Tryz.underlying222
 a45:=Tryz.isAgg222
 z45:=Tryz.sizeOf222
 v45:=Tryz.zeroValue222
 t46:=Tryz.underlying223
 a46:=Tryz.isAgg223
 z46:=Tryz.sizeOf223
 v46:=Tryz.zeroValue223
 t50:=Tryz.underlying227
 a50:=Tryz.isAgg227
 z50:=Tryz.sizeOf227
 v50:=Tryz.zeroValue227
 t53:=Tryz.underlying230
 a53:=Tryz.isAgg230
 z53:=Tryz.sizeOf230
 v53:=Tryz.zeroValue230
 t55:=Tryz.underlying232
 a55:=Tryz.isAgg232
 z55:=Tryz.sizeOf232
 v55:=Tryz.zeroValue232
 t66:=Tryz.underlying279
 a66:=Tryz.isAgg279
 z66:=Tryz.sizeOf279
 v66:=Tryz.zeroValue279
 t70:=Tryz.underlying125
 a70:=Tryz.isAgg125
 z70:=Tryz.sizeOf125
 v70:=Tryz.zeroValue125
 t76:=Tryz.underlying303
 a76:=Tryz.isAgg303
 z76:=Tryz.sizeOf303
 v76:=Tryz.zeroValue303
 t77:=Tryz.underlying157
 a77:=Tryz.isAgg157
 z77:=Tryz.sizeOf157
 v77:=Tryz.zeroValue157}
end Go.Proofs
end
section
namespace Go.Pd
open Go Go.AL
theorem ep{p:Prop}[Decidable p](h:(!decide p)=true):¬p:=by simpa using h
theorem fx{p:Prop}[Decidable p](h:¬(!decide p)=true):p:=by simpa using h
def BQ(n:Int):Thg:=⟨1,n,[],[],[],[],none⟩
def JY(s:Str):Thg:=⟨2,0,[],s,[],[],none⟩
def pw(b:Bool):Thg:=⟨3,if b=true then 1 else 0,[],[],[],[],none⟩
def Hx(k:Int)(o x:Str)(ns:List Str)(l:List Thg):Thg:=⟨k,0,o,x,ns,l,none⟩
def Ly(f:Fnc):Thg:=⟨8,0,[],[],[],[],some f⟩
def jq:Thg:=⟨0,0,[],[],[],[],none⟩
def eC(s:Option Scp)(o n:Str)(w:Thg):Option Scp:=some ⟨o,n,w,s⟩
def BR:Option Scp->Nat
 |none=>0
 |some ⟨_,_,_,r⟩=>BR r+1
mutual
def findS:Scp->Str->Str->Option Scp
 |⟨p,n,w,r⟩,o,m=>if p=o/\n=m then some ⟨p,n,w,r⟩else findF r o m
def findF:Option Scp->Str->Str->Option Scp
 |none,_,_=>none
 |some s,o,m=>findS s o m
end
theorem vi(p n:Str)(w:Thg)(r:Option Scp):BR (some ⟨p,n,w,r⟩)=BR r+1:=by rw[BR]
theorem km(p n:Str)(w:Thg)(r:Option Scp)(o m:Str):findF (some ⟨p,n,w,r⟩) o m=if p=o/\n=m then some ⟨p,n,w,r⟩else findF r o m:=by rw[findF,findS]
theorem BS(o m:Str):findF none o m=none:=by rw[findF]
def two:List Str:=[[97,100,100],[115,117,98],[109,117,108],[108,101,115,115],[115,97,109,101],[98,111,116,104],[99,97,116]]
def js:List Str:=[[110,111,116],[115,105,122,101],[115,104,111,119]]
def kF(k:Int)(s:Option Scp)(n:Str):Option Scp:=eC s [] n (Ly ⟨none,[],[],none,n,k⟩)
def bN:Option Scp:=js.foldl (kF 1) (two.foldl (kF 2) none)
def yO(n:Int):Int:=IntKind.i64.wrap n
structure Ev where
 f:Flt
 v:Thg
 st:Int
structure EvL where
 f:Flt
 vs:List Thg
 st:Int
def okE(v:Thg)(st:Int):Option Ev:=some ⟨⟨0,0⟩,v,st⟩
def lG(e a st:Int):Option Ev:=some ⟨⟨e,a⟩,jq,st⟩
def oq(r:Option Ev)(k:Thg->Int->Option Ev):Option Ev:=
 match r with
 |none=>none
 |some e=>if e.f.err=0 then k e.v e.st else some ⟨e.f,jq,e.st⟩
def jt(r:Option EvL)(k:List Thg->Int->Option Ev):Option Ev:=
 match r with
 |none=>none
 |some e=>if e.f.err=0 then k e.vs e.st else some ⟨e.f,jq,e.st⟩
def Lz:Ev:=⟨⟨0,0⟩,jq,0⟩
def JZ:EvL:=⟨⟨0,0⟩,[],0⟩
def gS(ev:Trm->Int->Option Ev):List Trm->List Thg->Int->Option EvL
 |[],out,st=>some ⟨⟨0,0⟩,out,st⟩
 |t::r,out,st=>
  match ev t st with
  |none=>none
  |some e=>if e.f.err=0 then gS ev r (out++[e.v]) e.st else some ⟨e.f,[],e.st⟩
def bn(ev:Trm->Int->Option Ev)(l:List Trm)(st:Int):Option EvL:=if 1000000<l.length then none else gS ev l [] st
def eH(k:Int)(l:List Thg):Bool:=l.all fun x=>decide (x.kind=k)
def ju(k:Int)(l:List Thg)(a:Int)(r:Option Ev):Option Ev:=if eH k l=true then r else lG 291 a 0
def nH0(l:List Thg):Int:=(l.getD 0 default).n
def nH1(l:List Thg):Int:=(l.getD 1 default).n
def tH0(l:List Thg):Str:=(l.getD 0 default).text
def tH1(l:List Thg):Str:=(l.getD 1 default).text
def LB(x y:Str)(a:Int):Option Ev:=if 1000000000000000000<x.length∨1000000000000000000<y.length then none else if 4096<x.length+y.length then lG 3 a 0 else okE (JY (x++y)) 0
def K0(nm:Str)(l:List Thg):Option Ev:=
 if nm=[115,104,111,119]then(if 1000<(Go.Lib.itoa (nH0 l)).length then none else okE (JY (Go.Lib.itoa (nH0 l))) 0)
 else if l.length<2 then none
 else okE (if nm=[97,100,100]then BQ (yO (nH0 l+nH1 l))else if nm=[115,117,98]then BQ (yO (nH0 l-nH1 l))else if nm=[109,117,108]then BQ (yO (nH0 l *nH1 l))else if nm=[108,101,115,115]then pw (decide (nH0 l<nH1 l))else pw (decide (nH0 l=nH1 l))) 0
def gj(nm:Str)(l:List Thg)(a:Int):Option Ev:=
 if l=[]then none
 else if nm=[110,111,116]then ju 3 l a (okE (pw (decide (nH0 l=0))) 0)
 else if nm=[98,111,116,104]then ju 3 l a (if l.length<2 then none else okE (pw (decide (yO (nH0 l+nH1 l)=2))) 0)
 else if nm=[99,97,116]then ju 2 l a (if l.length<2 then none else LB (tH0 l) (tH1 l) a)
 else if nm=[115,105,122,101]then ju 2 l a (okE (BQ (tH0 l).length) 0)
 else ju 1 l a (K0 nm l)
theorem eZ{α:Type}{r:Option α}(h:r≠none):∃v,r=some v:=by cases r with|none=>exact absurd rfl h|some v=>exact⟨v,rfl⟩
theorem lH{k:Int}{l:List Thg}{a:Int}{r:Option Ev}{e:Ev}(h:ju k l a r=some e)(hk:(!eH k l)=true):e=⟨⟨291,a⟩,jq,0⟩:=by unfold ju at h;rw[MS (by simpa using hk)]at h;exact(Nk h).symm
theorem jv{k:Int}{l:List Thg}{a:Int}{r:Option Ev}{e:Ev}(h:ju k l a r=some e)(hk:¬(!eH k l)=true):r=some e:=by unfold ju at h;rw[MT (by simpa using hk)]at h;exact h
theorem wH{l:List Thg}{r:Option Ev}{e:Ev}(h:(if l.length<2 then none else r)=some e):r=some e/\(1:Int)<l.length:=by
 split at h
 ·cases h
 ·exact⟨h,by omega⟩
theorem cZ{v:Thg}{st:Int}{e:Ev}(h:okE v st=some e):e=⟨⟨0,0⟩,v,st⟩:=(Nk h).symm
theorem cH{x a st:Int}{e:Ev}(h:lG x a st=some e):e=⟨⟨x,a⟩,jq,st⟩:=(Nk h).symm
def px(r:Option Ev)(st:Int):Option Ev:=match r with|none=>none|some e=>some ⟨e.f,e.v,st⟩
def da:Option Scp->List Str->List Thg->Option (Option Scp)
 |s,[],_=>some s
 |_,_::_,[]=>none
 |s,n::ns,x::xs=>da (eC s [] n x) ns xs
def fcn(l:List Thg):Fnc:=((l.getD 0 default).fn).getD default
def BT(l:List Thg):Bool:=(l.getD 0 default).fn.isSome
def Hy(l:List Thg):Bool:=(l.getD 0 default).fn.isNone
theorem LC{l:List Thg}(h:Hy l=true):BT l=false:=by unfold Hy at h;unfold BT;cases q:(l.getD 0 default).fn<;>simp_all
theorem LD{l:List Thg}(h:¬Hy l=true):BT l=true:=by unfold Hy at h;unfold BT;cases q:(l.getD 0 default).fn<;>simp_all
abbrev EvT:=Trm->Plc->Int->Option Ev
def kG(ev:EvT)(f:Fnc)(l:List Thg)(a st:Int):Option Ev:=
 match f.body with
 |none=>px (gj f.basic l a) st
 |some b=>
  match da f.scp f.names l with
  |none=>none
  |some s=>ev b ⟨s,f.self⟩ st
def nC(mo st:Int):Prop:=0<=st/\st<=mo/\mo<=1000000
instance (mo st:Int):Decidable (nC mo st):=inferInstanceAs (Decidable (_/\_))
def fO(ev:EvT)(mo:Int)(a:Int)(l:List Thg)(st:Int):Option Ev:=
 if ¬nC mo st∨l.length=0∨1000000<l.length then none
 else if BT l=true/\(fcn l).args=(l.length:Int)-1 then(if st=mo then lG 292 a st else kG ev (fcn l) (l.drop 1) a (st+1))
 else lG 291 a st
def fT(t:Trm)(i:Nat)(r:Option Ev):Option Ev:=if t.parts.length<=i then none else r
def lI(t:Trm)(i:Nat):Trm:=t.parts.getD i default
def sV(x:Thg)(t:Trm)(st:Int):Option Ev:=
 if x.kind=5/\0<=bj x.names t.name 0 then(if x.parts.length<=(bj x.names t.name 0).toNat then none else okE (x.parts.getD (bj x.names t.name 0).toNat default) st)else lG 291 t.pos st
def ifE(ev:EvT)(x:Thg)(t:Trm)(p:Plc)(st:Int):Option Ev:=
 if x.kind=3 then(if x.n=0∨x.n=1 then fT t (2-x.n).toNat (ev (lI t (2-x.n).toNat) p st)else none)else lG 291 t.pos st
def sW(ev:EvT)(x:Thg)(t:Trm)(p:Plc)(i:Nat)(st:Int):Option Ev:=
 if t.vars.length<=i∨x.parts.length=0 then none else fT t (i+1) (ev (lI t (i+1)) ⟨eC p.scp [] (t.vars.getD i default) (x.parts.getD 0 default),p.self⟩ st)
def sX(ev:EvT)(x:Thg)(t:Trm)(p:Plc)(st:Int):Option Ev:=
 if x.kind=6/\0<=bj t.names x.text 0 then sW ev x t p (bj t.names x.text 0).toNat st else lG 291 t.pos st
def Hz(x:Thg)(t:Trm)(p:Plc)(st:Int):Option Ev:=
 if x.kind=7/\x.pkg=p.self/\x.text=t.name then(if x.parts.length=0 then none else okE (x.parts.getD 0 default) st)else lG 291 t.pos st
def lJ(ev:EvT)(t:Trm)(p:Plc)(x:Thg)(st:Int):Option Ev:=
 if t.kind=9 then sV x t st else if t.kind=12 then ifE ev x t p st else if t.kind=13 then sX ev x t p st else Hz x t p st
def gr(ev:EvT)(t:Trm)(p:Plc)(st:Int):Option Ev:=fT t 0 (oq (ev (lI t 0) p st) (lJ ev t p))
def letE(ev:EvT)(t:Trm)(p:Plc)(st:Int):Option Ev:=fT t 1 (oq (ev (lI t 0) p st) fun v st=>ev (lI t 1) ⟨eC p.scp [] t.name v,p.self⟩ st)
def L1(ev:EvT)(t:Trm)(p:Plc)(st:Int):Option Ev:=fT t 0 (ev (lI t 0) p st)
def HA(x:Option Scp)(t:Trm)(st:Int):Option Ev:=if x.isSome=true then okE (x.getD default).what st else lG 110 t.pos st
def HB(t:Trm)(p:Plc)(st:Int):Option Ev:=HA (findF p.scp t.pkg t.name) t st
def funE(t:Trm)(p:Plc)(st:Int):Option Ev:=fT t 0 (okE (Ly ⟨p.scp,p.self,t.names,some (lI t 0),[],t.names.length⟩) st)
def ot(ev:EvT)(mo:Int)(t:Trm)(p:Plc)(st:Int):Option Ev:=
 if t.kind=1 then okE (BQ t.n) st
 else if t.kind=2 then okE (JY t.name) st
 else if t.kind=3∨t.kind=4 then okE (pw (decide (t.kind=3))) st
 else if t.kind=5 then HB t p st
 else if t.kind=6 then funE t p st
 else if t.kind=7 then jt (bn (fun x=>ev x p) t.parts st) (fO ev mo t.pos)
 else if t.kind=8 then jt (bn (fun x=>ev x p) t.parts st) fun l st=>okE (Hx 5 [] [] t.names l) st
 else if t.kind=10 then jt (bn (fun x=>ev x p) t.parts st) fun l st=>okE (Hx 6 [] t.name [] l) st
 else if t.kind=11 then jt (bn (fun x=>ev x p) t.parts st) fun l st=>okE (Hx 4 [] [] [] l) st
 else if t.kind=15 then L1 ev t p st
 else if t.kind=16 then jt (bn (fun x=>ev x p) t.parts st) fun l st=>okE (Hx 7 p.self t.name [] l) st
 else if t.kind=14 then letE ev t p st
 else gr ev t p st
def ao(mo:Int):Nat->EvT
 |0,_,_,_=>none
 |n+1,t,p,st=>if nC mo st then ot (ao mo n) mo t p st else none
end Go.Pd
end
section
namespace Go.AL
variable [Tabs]
section
variable {P:Program}
def p4(τ σ ρ μ:Ty)(F:den τ->den σ->den ρ->den μ->Ans):Pat
 |[a,b,c,d],[]=>(match arg τ a,arg σ b,arg ρ c,arg μ d with|some a,some b,some c,some d=>some (F a b c d)|_,_,_,_=>none)
 |_,_=>none
theorem Ml{f:Nat}{τ σ ρ μ:Ty}{F:den τ->den σ->den ρ->den μ->Ans}(he:aq P f)
 (h:∀x y z u,Wf τ x->Wf σ y->Wf ρ z->(∀q,(F x y z u).ob=some q->q)->an P f [inj τ x,inj σ y,inj ρ z,inj μ u] [] (F x y z u)):ag P f (p4 τ σ ρ μ F):=by
 intro args S A hA ho _;unfold p4 at hA;split at hA
 ·split at hA
  ·rename_i x y z u hx hy hz hu;simp at hA;subst hA;exact⟨he,an.args (.cons (Rd.arg hx) (.cons (Rd.arg hy) (.cons (Rd.arg hz) (.cons (Rd.arg hu) .nil)))) (an.wf fun hw=>h x y z u hw.one hw.two hw.three ho)⟩
  ·cases hA
 ·cases hA
end
end Go.AL
end
noncomputable section
namespace Go.AL
open Go.Pd
variable [Tabs] {P:Program}
def F9(st mo:Int):List (Nat×SObj):=[(900,.box (.agg [.int .i64 st,.int .i64 mo]))]
def dy(r:Option Ev):Ev:=match r with|none=>Lz|some e=>e
theorem bV(e:Ev):dy (some e)=e:=rfl
def Fa(r:Option EvL):EvL:=match r with|none=>JZ|some e=>e
theorem jw(e:EvL):Fa (some e)=e:=rfl
def kn(t:Nat)(mo:Int)(ob:Prop)(e:Ev):Ans:=
 ⟨some ob,some (!decide (e.f.err=0),.iface t (.agg [.int .i64 e.f.err,.int .i64 e.f.pos]),[(900,.box (.agg [.int .i64 e.st,.int .i64 mo]))]),.st .thing e.v,[(900,.box (.agg [.int .i64 e.st,.int .i64 mo]))]⟩
def evLA(t:Nat)(mo:Int)(ob:Prop)(e:EvL):Ans:=
 ⟨some ob,some (!decide (e.f.err=0),.iface t (.agg [.int .i64 e.f.err,.int .i64 e.f.pos]),[(900,.box (.agg [.int .i64 e.st,.int .i64 mo]))]),.lst (.st .thing) e.vs none,[(900,.box (.agg [.int .i64 e.st,.int .i64 mo]))]⟩
def bsA(t:Nat)(ob:Prop)(e:Ev):Ans:=⟨some ob,some (!decide (e.f.err=0),.iface t (.agg [.int .i64 e.f.err,.int .i64 e.f.pos]),[]),.st .thing e.v,[]⟩
def pE(τ:Ty)(F:den τ->Plc->Int->Int->Ans):Pat
 |[.ptr 900 0,a,b],[(900,.box (.agg [.int .i64 st,.int .i64 mo]))]=>(match arg τ a,arg (.st .plc) b with|some x,some p=>some (F x p st mo)|_,_=>none)
 |_,_=>none
def pEc(F:Trm->List Thg->Int->Int->Ans):Pat
 |[.ptr 900 0,a,b],[(900,.box (.agg [.int .i64 st,.int .i64 mo]))]=>(match arg (.pt .term) a,arg (.lst (.st .thing)) b with|some (some x),some l=>some (F x l st mo)|_,_=>none)
 |_,_=>none
theorem Wf.pt{n:SN}{x:SD n}(h:Wf (.pt n) (some x)):Wf (.st n) x:=by
 obtain⟨Ω,v,hv⟩:=h
 cases hv with
 |ptSome _ _ _ hc=>
  cases hc with
  |cptr _ b off vals h1 h2=>
   refine⟨Ω,.agg ((List.range (cells (.st n) x).length).map vals).toArray,.st n x _ (.agg _ _ (by simp) fun j c v hc hv=>?_)⟩
   have hlt:j<(cells (.st n) x).length:=by
    rcases MY j (cells (.st n) x).length with q|q
    ·exact q
    ·rw[MU q]at hc;cases hc
   rw[Np,List.getElem?_range hlt]at hv;simp only[O6,Xs]at hv;rw[<-hv];exact h2 j c hc
theorem DK{f:Nat}{τ:Ty}{F:den τ->Plc->Int->Int->Ans}(he:aq P f)
 (h:∀x p st mo,Wf τ x->Wf (.st .plc) p->(∀q,(F x p st mo).ob=some q->q)->an P f [.ptr 900 0,inj τ x,.st .plc p] (F9 st mo) (F x p st mo)):ag P f (pE τ F):=by
 intro args S A hA ho _;unfold pE at hA;split at hA
 ·split at hA
  ·rename_i x p hx hp;simp only[Xs]at hA;subst hA;exact⟨he,an.args (.cons (Rd.refl _) (.cons (Rd.arg hx) (.cons (Rd.arg hp) .nil))) (an.wf fun hw=>h _ _ _ _ (WfL.two hw) (WfL.three (τ:=.st .plc) hw) ho)⟩
  ·cases hA
 ·cases hA
theorem LF{f:Nat}{F:Trm->List Thg->Int->Int->Ans}(he:aq P f)
 (h:∀x l st mo,Wf (.st .term) x->Wf (.lst (.st .thing)) l->(∀q,(F x l st mo).ob=some q->q)->an P f [.ptr 900 0,.pt .term (some x),.lst (.st .thing) l none] (F9 st mo) (F x l st mo)):ag P f (pEc F):=by
 intro args S A hA ho _;unfold pEc at hA;split at hA
 ·split at hA
  ·rename_i x l hx hl;simp only[Xs]at hA;subst hA;exact⟨he,an.args (.cons (Rd.refl _) (.cons (Rd.arg hx) (.cons (Rd.arg hl) .nil))) (an.wf fun hw=>h _ _ _ _ (Wf.pt (WfL.two (τ:=.pt .term) hw)) (WfL.three (τ:=.lst (.st .thing)) hw) ho)⟩
  ·cases hA
 ·cases hA
end Go.AL
end
section
namespace Go.Pd
open Go.AL
def p0(A:Ans):Pat
 |[],[]=>some A
 |_,_=>none
theorem L2[Tabs]{P:Program}{f:Nat}{A:Ans}(he:aq P f)(h:an P f [] [] A):ag P f (p0 A):=by
 intro args S A' hA _ _;unfold p0 at hA;split at hA
 ·simp only[Xs]at hA;subst hA;exact⟨he,h⟩
 ·cases hA
end Go.Pd
end
noncomputable section
namespace Go.Pd
open Go Go.AL
mutual
def szV:Vlu->Nat
 |⟨_,_,_,_,_,ps⟩=>szVL ps+1
def szVL:List Vlu->Nat
 |[]=>0
 |p::r=>szV p+szVL r
end
mutual
def allV(f:Vlu->Bool):Vlu->Bool
 |⟨k,z,g,x,ns,ps⟩=>f ⟨k,z,g,x,ns,ps⟩&&allVL f ps
def allVL(f:Vlu->Bool):List Vlu->Bool
 |[]=>true
 |p::r=>allV f p&&allVL f r
end
mutual
def deepV:Vlu->Int->Int
 |⟨_,_,_,_,_,ps⟩,l=>deepVL ps (l+1) l
def deepVL:List Vlu->Int->Int->Int
 |[],_,d=>d
 |p::r,l,d=>deepVL r l (max d (deepV p l))
end
theorem wI(a:Vlu):szV a=szVL a.parts+1:=by cases a;rfl
theorem qN(a:Vlu):0<szV a:=by rw[wI];omega
theorem qO:∀{l:List Vlu} {a:Vlu},a∈l->szV a<=szVL l
 |b::r,a,h=>by
  simp only[szVL];rcases N9.1 h with rfl|h
  ·omega
  ·have:=qO h;omega
theorem lK:∀(l:List Vlu)(k:Nat)(d:Vlu),k<l.length->szVL (l.take (k+1))=szVL (l.take k)+szV (l.getD k d)
 |a::r,0,d,_=>by simp[szVL]
 |a::r,k+1,d,h=>by have:=lK r k d (by simpa using h);simp only[NW,szVL,List.getD_cons_succ]at this⊢;omega
theorem wJ(l:List Vlu)(k:Nat):szVL (l.take k)<=szVL l:=by
 induction l generalizing k with
 |nil=>simp[szVL]
 |cons a r ih=>
  cases k with|zero=>simp[szVL]|succ k=>have:=ih k;simp only[NW,szVL];omega
theorem wK(f:Vlu->Bool)(v:Vlu):allV f v=(f v&&v.parts.all (allV f)):=by
 have e:∀l:List Vlu,allVL f l=l.all (allV f):=by
  intro l
  induction l with
  |nil=>rfl
  |cons a r ih=>rw[Ny,<-ih];rfl
 cases v with|mk k z g x ns ps=>show(f _&&allVL f ps)=_;rw[e]
def BU(t:Nat)(v:Vlu)(l c:Int)(q:Prop):Ans:=
 ⟨some (q/\0<=c/\c<=2000/\1<=l/\l<=c+1),some (decide (2000<c+(szV v:Int)),.iface t (.agg []),[(900,.box (.int .i64 2001))]),.int .i64 (deepV v l),[(900,.box (.int .i64 (c+(szV v:Int))))]⟩
def ou(t:Nat)(n:Nat):Pat:=fun args S=>
 match args,S with
 |[a,.int .i64 l,.ptr 900 0],[(900,.box (.int .i64 c))]=>(match arg (.st .val) a with|some v=>some (BU t v l c (szV v<=n))|none=>none)
 |_,_=>none
theorem qk[Tabs]{P:Program}{f t n:Nat}(he:aq P f)(h:∀v l c,Wf (.st .val) v->szV v<=n->(0<=c/\c<=2000/\1<=l/\l<=c+1)->an P f [.st .val v,.int .i64 l,.ptr 900 0] [(900,.box (.int .i64 c))] (BU t v l c (szV v<=n))) :
  ag P f (ou t n):=by
 intro args S A hA ho _;unfold ou at hA;split at hA
 ·split at hA
  ·rename_i v hv;simp only[Xs]at hA;subst hA;obtain⟨h1,h2⟩:=ho _ rfl;exact⟨he,an.args (.cons (Rd.arg hv) (.cons (Rd.refl _) (.cons (Rd.refl _) .nil))) (an.wf fun hw=>h _ _ _ hw.one h1 h2)⟩
  ·cases hA
 ·cases hA
def yP(v:Vlu):Bool:=decide (v.pkg=[])&&decide (v.text=[])&&decide (v.names.length=0)
def sY(v:Vlu):Bool:=decide (v.parts.length=0)
def bf(v:Vlu):Bool:=
 if v.kind=1 then yP v&&sY v
 else if v.kind=2 then decide (v.pkg=[])&&decide (v.n=0)&&decide (v.names.length=0)&&sY v
 else if v.kind=3 then yP v&&sY v&&(decide (v.n=0)||decide (v.n=1))
 else if v.kind=4 then yP v&&decide (v.n=0)
 else if v.kind=5 then decide (v.pkg=[])&&decide (v.text=[])&&decide (v.n=0)&&j8 v.names&&decide (v.names.length=v.parts.length)
 else if v.kind=6 then decide (v.pkg=[])&&decide (v.n=0)&&decide (v.names.length=0)&&ay v.text&&decide (v.parts.length=1)
 else if v.kind=7 then ay v.pkg&&dh v.text&&decide (v.n=0)&&decide (v.names.length=0)&&decide (v.parts.length=1)
 else if v.kind=8 then yP v&&sY v&&decide (0<=v.n)&&decide (v.n<=1000)
 else false
def cA(v:Vlu):Bool:=allV (fun x=>decide (x.names.length<=8796093022208)) v
def ow(v:Vlu):Int:=if 2000<szV v then 3 else if 40<deepV v 1 then 91 else if allV bf v=true then 0 else 290
def fv:Vlu:=⟨0,0,[],[],[],[]⟩
structure Td where
 ok:Bool
 v:Vlu
 room:Int
structure TdL where
 ok:Bool
 vs:List Vlu
 room:Int
def LG:Td:=⟨false,fv,0⟩
def BV(r:Option Td):Td:=match r with|none=>LG|some t=>t
theorem py(t:Td):BV (some t)=t:=rfl
def fnN(x:Thg):Int:=if x.fn.isSome=true then(x.fn.getD default).args else x.n
def HC(x:Thg)(ps:List Vlu):Vlu:=⟨x.kind,fnN x,x.pkg,x.text,x.names,ps⟩
def iC(td:Thg->Int->Option Td):List Thg->List Vlu->Int->Option TdL
 |[],out,r=>some ⟨true,out,r⟩
 |x::l,out,r=>
  match td x r with
  |none=>none
  |some t=>if t.ok=true then iC td l (out++[t.v]) t.room else some ⟨false,[],t.room⟩
def sZ(r:Int):Prop:=0<=r/\r<=1000000
instance (r:Int):Decidable (sZ r):=inferInstanceAs (Decidable (_/\_))
def endT(x:Thg)(t:TdL):Td:=⟨t.ok,if t.ok=true then HC x t.vs else fv,t.room⟩
def dD:Nat->Thg->Int->Option Td
 |0,_,_=>none
 |n+1,x,r=>
  if ¬sZ r then none
  else if r-1<0 then some ⟨false,fv,r-1⟩
  else if 8796093022208<x.names.length∨1000000<x.parts.length then none
  else(iC (dD n) x.parts [] (r-1)).map (endT x)
structure Sw where
 f:Flt
 v:Vlu
def LH:Sw:=⟨⟨0,0⟩,fv⟩
def uf(r:Option Sw):Sw:=match r with|none=>LH|some t=>t
theorem pz(t:Sw):uf (some t)=t:=rfl
def cb(m:Nat)(x:Thg)(a:Int):Option Sw:=
 match dD m x 2000 with
 |none=>none
 |some t=>
  if t.ok=true then(if cA t.v=true then(if ow t.v=0 then some ⟨⟨0,0⟩,t.v⟩else some ⟨⟨ow t.v,a⟩,fv⟩)else none)
  else some ⟨⟨3,a⟩,fv⟩
structure Rn where
 v:Vlu
 st:Int
 f:Flt
def LI:Rn:=⟨fv,0,⟨0,0⟩⟩
def oz(r:Option Rn):Rn:=match r with|none=>LI|some t=>t
theorem mn(t:Rn):oz (some t)=t:=rfl
def plc0:Plc:=⟨bN,[]⟩
def swR(st:Int)(s:Sw):Rn:=if s.f.err=0 then⟨s.v,st,⟨0,0⟩⟩else⟨fv,st,s.f⟩
def K1(m:Nat)(a:Int)(e:Ev):Option Rn:=if e.f.err=0 then(cb m e.v a).map (swR e.st)else some ⟨fv,e.st,e.f⟩
def gl(n m:Nat)(t:Trm)(k:Int):Option Rn:=(ao k n t plc0 0).bind (K1 m t.pos)
def LJ(r:Rn):Rn:=if r.f.err=0 then⟨r.v,r.st,⟨0,0⟩⟩else⟨fv,0,r.f⟩
def qv(n m:Nat)(t:Trm)(k:Int):Option Rn:=
 if ¬cY t=0 then some ⟨fv,0,⟨cY t,0⟩⟩
 else if k<0∨2000<k then some ⟨fv,0,⟨2,0⟩⟩
 else(gl n m t k).map LJ
def HD(q:Prop)(t:Td):Ans:=⟨some q,none,.tup [.st .val t.v,.bool t.ok],[(900,.box (.int .i64 t.room))]⟩
def mq(n:Nat):Pat:=fun args S=>
 match args,S with
 |[a,.ptr 900 0],[(900,.box (.int .i64 r))]=>(match arg (.st .thing) a with|some x=>some (HD ((dD n x r).isSome=true) (BV (dD n x r)))|none=>none)
 |_,_=>none
theorem ta[Tabs]{P:Program}{f n:Nat}(he:aq P f)(h:∀x r,Wf (.st .thing) x->(dD n x r).isSome=true->an P f [.st .thing x,.ptr 900 0] [(900,.box (.int .i64 r))] (HD ((dD n x r).isSome=true) (BV (dD n x r)))) :
  ag P f (mq n):=by
 intro args S A hA ho _;unfold mq at hA;split at hA
 ·split at hA
  ·rename_i x hx;simp only[Xs]at hA;subst hA;exact⟨he,an.args (.cons (Rd.arg hx) (.cons (Rd.refl _) .nil)) (an.wf fun hw=>h _ _ hw.one (ho _ rfl))⟩
  ·cases hA
 ·cases hA
def swA(t:Nat)(q:Prop)(s:Sw):Ans:=⟨some q,some (!decide (s.f.err=0),.iface t (.agg [.int .i64 s.f.err,.int .i64 s.f.pos]),[]),.st .val s.v,[]⟩
def Mm:AV:=.agg [.int .i64 0,.int .i64 0,.str [],.str [],.nils,.nils]
def rnS(st mo:Int):List (Nat×SObj):=[(900,.box (.ptr 902 0)),(901,.box Mm),(902,.box (.agg [.int .i64 st,.int .i64 mo]))]
def LK(t:Nat)(mo:Int)(q:Prop)(r:Rn):Ans:=
 ⟨some q,some (!decide (r.f.err=0),.iface t (.agg [.int .i64 r.f.err,.int .i64 r.f.pos]),[(902,.box (.agg [.int .i64 r.st,.int .i64 mo]))]),.tup [],
  [(901,.box (.st .val r.v)),(902,.box (.agg [.int .i64 r.st,.int .i64 mo]))]⟩
def LL(mo:Int)(q:Prop)(r:Rn):Ans:=⟨some q,none,.st .fault r.f,[(901,.box (.st .val r.v)),(902,.box (.agg [.int .i64 r.st,.int .i64 mo]))]⟩
theorem DL[Tabs]{n:SN}{c:AV}{x:SD n}(h:arg (.st n) c=some x):Rd (.cptr c) (.cptr (.st n x)):=by
 intro Ω v hv;have hr:=nc (.st n) h
 cases hv with
 |cptr _ b off vals h1 h2=>
  have key:∀(j:Nat)(d:AV),(cells (.st n) x)[j]?=some d->∃c',(ae c)[j]?=some c'/\Rd c' d:=fun j d hd=>by
   have hlt:j<(ae c).length:=by
    rw[hr.1];rcases MY j (cells (.st n) x).length with q|q
    ·exact q
    ·rw[MU q]at hd;cases hd
   exact⟨_,MQ hlt,hr.2 j _ d (MQ hlt) hd⟩
  refine .cptr _ b off vals (fun j d hd=>?_) (fun j d hd=>?_)
  ·obtain⟨c',hc,_⟩:=key j d hd;exact h1 j c' hc
  ·obtain⟨c',hc,r⟩:=key j d hd;exact r _ _ (h2 j c' hc)
theorem DM[Tabs]{n:SN}{x:SD n}(h:∃Ω v,V Ω (.cptr (.st n x)) v):Wf (.st n) x:=by obtain⟨Ω,v,h⟩:=h;exact Wf.pt ⟨Ω,v,.ptSome _ _ _ h⟩
theorem Mn[Tabs](g:Nat){cs ds:List AV}(h:RdL cs ds):Rd (.fn g cs) (.fn g ds):=by intro Ω v hv;obtain⟨vs,rfl,h1⟩:=V.fn_inv hv;have:=h1.rd h;exact .fn g ds vs this.1 this.2
def yQ(t n m:Nat):Pat:=fun args S=>
 match args,S with
 |[.ptr 900 0,.cptr b,.ptr 901 0],[(900,.box (.ptr 902 0)),(901,.box (.agg [.int .i64 0,.int .i64 0,.str [],.str [],.nils,.nils])),(902,.box (.agg [.int .i64 0,.int .i64 mo]))]=>
  (match arg (.st .term) b with|some x=>some (LK t mo ((gl n m x mo).isSome=true) (oz (gl n m x mo)))|none=>none)
 |_,_=>none
theorem HE[Tabs]{P:Program}{f t n m:Nat}(he:aq P f)(h:∀x mo,Wf (.st .term) x->(gl n m x mo).isSome=true->an P f [.ptr 900 0,.cptr (.st .term x),.ptr 901 0] (rnS 0 mo) (LK t mo ((gl n m x mo).isSome=true) (oz (gl n m x mo)))) :
  ag P f (yQ t n m):=by
 intro args S A hA ho _;unfold yQ at hA;split at hA
 ·split at hA
  ·rename_i x hx;simp only[Xs]at hA;subst hA;exact⟨he,an.args (.cons (Rd.refl _) (.cons (DL hx) (.cons (Rd.refl _) .nil))) (an.wf fun hw=>h _ _ (DM hw.cons.2.cons.1) (ho _ rfl))⟩
  ·cases hA
 ·cases hA
def K2(g n m:Nat):Pat:=fun args S=>
 match args,S with
 |[.fn g' [.ptr 900 0,.cptr b,.ptr 901 0]],[(900,.box (.ptr 902 0)),(901,.box (.agg [.int .i64 0,.int .i64 0,.str [],.str [],.nils,.nils])),(902,.box (.agg [.int .i64 0,.int .i64 mo]))]=>
  (match Nat.beq g' g,arg (.st .term) b with|true,some x=>some (LL mo ((gl n m x mo).isSome=true) (oz (gl n m x mo)))|_,_=>none)
 |_,_=>none
theorem K3[Tabs]{P:Program}{f g n m:Nat}(he:aq P f)(h:∀x mo,Wf (.st .term) x->(gl n m x mo).isSome=true->an P f [.fn g [.ptr 900 0,.cptr (.st .term x),.ptr 901 0]] (rnS 0 mo) (LL mo ((gl n m x mo).isSome=true) (oz (gl n m x mo)))) :
  ag P f (K2 g n m):=by
 intro args S A hA ho _;unfold K2 at hA;split at hA
 ·split at hA
  ·rename_i x hg hx;simp only[Xs]at hA;subst hA;have e:=Ng hg;subst e
   exact⟨he,an.args (.cons (Mn _ (.cons (Rd.refl _) (.cons (DL hx) (.cons (Rd.refl _) .nil)))) .nil) (an.wf fun hw=>h _ _ (by
    obtain⟨Ω,v,hv⟩:=hw.cons.1;obtain⟨vs,rfl,h1⟩:=V.fn_inv hv;exact DM (WfL.cons (WfL.cons ⟨Ω,vs,h1⟩).2).1) (ho _ rfl))⟩
  ·cases hA
 ·cases hA
theorem Mo{n m:Nat}{t:Trm}{k:Int}{r:Rn}(h:gl n m t k=some r)(hf:¬r.f.err=0):r.v=fv:=by
 unfold gl at h;obtain⟨e,he,h⟩:=O7.1 h;unfold K1 at h;split at h
 ·obtain⟨s,hs,rfl⟩:=N3.1 h;unfold swR at hf⊢;split
  ·rename_i q;rw[MT q]at hf;exact absurd rfl hf
  ·rfl
 ·cases h;rfl
theorem LM{n m:Nat}{t:Trm}{k:Int}{r:Rn}(h:gl n m t k=some r)(hf:r.f.err=0):r.f=⟨0,0⟩:=by
 unfold gl at h;obtain⟨e,he,h⟩:=O7.1 h;unfold K1 at h;split at h
 ·obtain⟨s,hs,rfl⟩:=N3.1 h;unfold swR at hf⊢;split
  ·rfl
  ·rename_i q;rw[MS q]at hf;exact absurd hf q
 ·rename_i q;cases h;exact absurd hf q
end Go.Pd
end
section
namespace Go.Pd
open Go.AL
abbrev SR3:=Shape×Int×Flt
abbrev TR3:=Trm×Int×Flt
end Go.Pd
end
section
namespace Go.Pd
open Go.AL
abbrev st(l:List Tokn)(a:Int):PS:=⟨l,a,0,0⟩
variable {l:List Tokn}
section
variable {l:List Tokn} {R:PS->Shape×PS} {R':Int->SR3}
end
end Go.Pd
end
section
namespace Go.Pd
open Go.AL
mutual
def sizeF:Shape->Int->Int
 |⟨_,_,_,_,ps⟩,m=>sizeL ps 1 m
def sizeL:List Shape->Int->Int->Int
 |[],n,_=>n
 |p::r,n,m=>if n<=m then sizeL r (n+sizeF p (m-n)) m else n
end
mutual
theorem sizeF_bd:∀(s:Shape)(m:Int),0<=m->1<=sizeF s m/\sizeF s m<=m+1
 |⟨_,_,_,_,ps⟩,m,h=>by simp only[sizeF];exact sizeL_bd ps 1 m (by omega) (by omega)
theorem sizeL_bd:∀(l:List Shape)(n m:Int),1<=n->n<=m+1->1<=sizeL l n m/\sizeL l n m<=m+1
 |[],n,m,h1,h2=>by simp only[sizeL];omega
 |p::r,n,m,h1,h2=>by
  simp only[sizeL];split
  ·have:=sizeF_bd p (m-n) (by omega);exact sizeL_bd r _ m (by omega) (by omega)
  ·omega
end
end Go.Pd
end
section
namespace Go.Pd
open Go.AL
mutual
def dI:Trm->Int->Int
 |⟨_,_,_,_,_,_,_,ps,_⟩,m=>sizeTL ps 1 m
def sizeTL:List Trm->Int->Int->Int
 |[],n,_=>n
 |p::r,n,m=>if n<=m then sizeTL r (n+dI p (m-n)) m else n
end
mutual
def deepT:Trm->Nat
 |⟨_,_,_,_,_,_,_,ps,_⟩=>maxDT ps+1
def maxDT:List Trm->Nat
 |[]=>0
 |p::r=>max (deepT p) (maxDT r)
end
mutual
theorem sizeT_bd:∀(s:Trm)(m:Int),0<=m->1<=dI s m/\dI s m<=m+1
 |⟨_,_,_,_,_,_,_,ps,_⟩,m,h=>by simp only[dI];exact sizeTL_bd ps 1 m (by omega) (by omega)
theorem sizeTL_bd:∀(l:List Trm)(n m:Int),1<=n->n<=m+1->1<=sizeTL l n m/\sizeTL l n m<=m+1
 |[],n,m,h1,h2=>by simp only[sizeTL];omega
 |p::r,n,m,h1,h2=>by
  simp only[sizeTL];split
  ·have:=sizeT_bd p (m-n) (by omega);exact sizeTL_bd r _ m (by omega) (by omega)
  ·omega
end
mutual
theorem countT_size:∀(s:Trm)(m:Int),0<=m->(countT s m).1=min (szT s:Int) (m+1)
 |⟨_,_,_,_,_,_,_,ps,_⟩,m,h=>by simp only[countT,szT];rw[countL_size ps m 1 0 (by omega)];omega
theorem countL_size:∀(l:List Trm)(m n d:Int),n<=m+1->(countL l m n d).1=min (n+szTL l) (m+1)
 |[],m,n,d,h=>by simp only[countL,szTL];omega
 |p::r,m,n,d,h=>by
  simp only[countL,szTL];have:=kf p;split
  ·show n=_;omega
  ·rw[countL_size r m _ _ (by rw[countT_size p (m-n) (by omega)];omega),countT_size p (m-n) (by omega)];omega
end
mutual
theorem countT_deep:∀(s:Trm)(m:Int),(szT s:Int)<=m->(countT s m).2=deepT s
 |⟨_,_,_,_,_,_,_,ps,_⟩,m,h=>by simp only[szT]at h;simp only[countT,deepT];rw[countL_deep ps m 1 0 (by omega) (by omega)];omega
theorem countL_deep:∀(l:List Trm)(m n d:Int),n+szTL l<=m->0<=d->(countL l m n d).2=max d (maxDT l)
 |[],m,n,d,h,h0=>by simp only[countL,maxDT];omega
 |p::r,m,n,d,h,h0=>by
  simp only[szTL]at h;simp only[countL,maxDT];rw[MS (by omega)];have e1:(countT p (m-n)).1=szT p:=by rw[countT_size p (m-n) (by omega)];omega
  rw[countL_deep r m _ _ (by rw[e1];omega) (by omega),countT_deep p (m-n) (by omega)];omega
end
mutual
def eqT:Trm->Trm->Bool->Bool
 |⟨k,g,q,z,ns,vs,ss,ps,pp⟩,⟨k',g',q',z',ns',vs',ss',ps',pp'⟩,b=>
  decide (k=k')&&decide (g=g')&&decide (q=q')&&decide (z=z')&&(!b||decide (pp=pp'))&&decide (ns=ns')&&decide (vs=vs')&&eqL ss ss'&&eqTL ps ps' b
def eqTL:List Trm->List Trm->Bool->Bool
 |[],[],_=>true
 |x::r,y::s,b=>eqT x y b&&eqTL r s b
 |_,_,_=>false
end
end Go.Pd
end
section
namespace Go.Pd
open Go.AL
def eI(t:Trm):Bool:=allT (fun x=>decide (x.name.length<=2000000)&&decide (x.names.length<=2000000)) t
theorem BW{t x:Trm}(h:eI t=true)(hx:x∈t.parts):eI x=true:=by unfold eI at h⊢;rw[allT_eq,MR,allTL_all]at h;exact N6.1 h.2 x hx
theorem BX{t:Trm}(h:eI t=true):t.name.length<=2000000/\t.names.length<=2000000:=by unfold eI at h;rw[allT_eq,MR,MR,MV,MV]at h;exact h.1
end Go.Pd
end
section
namespace Go.Pd
open Go Go.AL
def shE(d:Int)(e:Ev):Ev:=⟨e.f,e.v,e.st+d⟩
def shL(d:Int)(e:EvL):EvL:=⟨e.f,e.vs,e.st+d⟩
def Bes(d mo st:Int)(r q:Option Ev):Prop:=∀e,r=some e->q=some (shE d e)/\st<=e.st/\e.st<=mo
def wL(d mo st:Int)(r q:Option EvL):Prop:=∀e,r=some e->q=some (shL d e)/\st<=e.st/\e.st<=mo
def kN(d mo:Int)(ev ew:EvT):Prop:=∀t p st,Bes d mo st (ev t p st) (ew t p (st+d))
variable {d mo st:Int}
theorem gT{v:Thg}(h:st<=mo):Bes d mo st (okE v st) (okE v (st+d)):=by intro e he;cases cZ he;exact⟨rfl,NA _,h⟩
theorem ko{x a:Int}(h:st<=mo):Bes d mo st (lG x a st) (lG x a (st+d)):=by intro e he;cases cH he;exact⟨rfl,NA _,h⟩
theorem iD{q:Option Ev}:Bes d mo st none q:=fun e he=>by cases he
theorem bC{c:Prop}[Decidable c]{a b a2 b2:Option Ev}(h1:c->Bes d mo st a a2)(h2:¬c->Bes d mo st b b2):Bes d mo st (if c then a else b) (if c then a2 else b2):=by
 by_cases h:c
 ·rw[MT h,MT h];exact h1 h
 ·rw[MS h,MS h];exact h2 h
theorem jx{t:Trm}{i:Nat}{a b:Option Ev}(h:Bes d mo st a b):Bes d mo st (fT t i a) (fT t i b):=bC (fun _=>iD) (fun _=>h)
theorem DN{r q:Option Ev}{k j:Thg->Int->Option Ev}(h:Bes d mo st r q)(hk:∀v s,st<=s->s<=mo->Bes d mo s (k v s) (j v (s+d))):Bes d mo st (oq r k) (oq q j):=by
 intro e he
 cases r with
 |none=>cases he
 |some x=>
  obtain⟨rfl,h1,h2⟩:=h x rfl;have q1:oq (some x) k=if x.f.err=0 then k x.v x.st else some ⟨x.f,jq,x.st⟩:=rfl
  have q2:oq (some (shE d x)) j=if x.f.err=0 then j x.v (x.st+d)else some ⟨x.f,jq,x.st+d⟩:=rfl
  rw[q1]at he;rw[q2];by_cases c:x.f.err=0
  ·rw[MT c]at he⊢;obtain⟨g1,g2,g3⟩:=hk x.v x.st h1 h2 e he;exact⟨g1,by omega,g3⟩
  ·rw[MS c]at he⊢;cases he;exact⟨rfl,h1,h2⟩
theorem lL{r q:Option EvL}{k j:List Thg->Int->Option Ev}(h:wL d mo st r q)(hk:∀v s,st<=s->s<=mo->Bes d mo s (k v s) (j v (s+d))):Bes d mo st (jt r k) (jt q j):=by
 intro e he
 cases r with
 |none=>cases he
 |some x=>
  obtain⟨rfl,h1,h2⟩:=h x rfl;have q1:jt (some x) k=if x.f.err=0 then k x.vs x.st else some ⟨x.f,jq,x.st⟩:=rfl
  have q2:jt (some (shL d x)) j=if x.f.err=0 then j x.vs (x.st+d)else some ⟨x.f,jq,x.st+d⟩:=rfl
  rw[q1]at he;rw[q2];by_cases c:x.f.err=0
  ·rw[MT c]at he⊢;obtain⟨g1,g2,g3⟩:=hk x.vs x.st h1 h2 e he;exact⟨g1,by omega,g3⟩
  ·rw[MS c]at he⊢;cases he;exact⟨rfl,h1,h2⟩
theorem jy{ev:Trm->Int->Option Ev}{t:Trm}{r:List Trm}{out:List Thg}{e:Ev}(h:ev t st=some e):gS ev (t::r) out st=if e.f.err=0 then gS ev r (out++[e.v]) e.st else some ⟨e.f,[],e.st⟩:=by simp only[gS,h]
theorem wM{ev ew:EvT}(h:kN d mo ev ew)(p:Plc):∀(l:List Trm)(out:List Thg)(st:Int),st<=mo->wL d mo st (gS (fun x=>ev x p) l out st) (gS (fun x=>ew x p) l out (st+d))
 |[],out,st,hs=>by intro e he;simp only[gS,Xs]at he⊢;subst he;exact⟨rfl,NA _,hs⟩
 |t::r,out,st,hs=>by
  intro e he
  cases hx:ev t p st with
  |none=>simp only[gS,hx]at he;cases he
  |some x=>
   obtain⟨g,h1,h2⟩:=h t p st x hx;rw[jy (ev:=fun x=>ev x p) hx]at he;have q2:gS (fun x=>ew x p) (t::r) out (st+d)=if x.f.err=0 then gS (fun x=>ew x p) r (out++[x.v]) (x.st+d)else some ⟨x.f,[],x.st+d⟩:=jy (ev:=fun x=>ew x p) g
   rw[q2];by_cases c:x.f.err=0
   ·rw[MT c]at he⊢;obtain⟨g1,g2,g3⟩:=wM h p r _ x.st h2 e he;exact⟨g1,by omega,g3⟩
   ·rw[MS c]at he⊢;cases he;exact⟨rfl,h1,h2⟩
theorem ig{ev ew:EvT}(h:kN d mo ev ew)(p:Plc)(l:List Trm)(hs:st<=mo):wL d mo st (bn (fun x=>ev x p) l st) (bn (fun x=>ew x p) l (st+d)):=by
 unfold bn;by_cases c:1000000<l.length
 ·rw[MT c];intro e he;cases he
 ·rw[MS c,MS c];exact wM h p l [] st hs
theorem BY{r:Option Ev}(h:st<=mo):Bes d mo st (px r st) (px r (st+d)):=by
 intro e he
 cases r with
 |none=>cases he
 |some x=>cases he;exact⟨rfl,NA _,h⟩
theorem yR{ev ew:EvT}(h:kN d mo ev ew)(f:Fnc)(l:List Thg)(a:Int)(hs:st<=mo):Bes d mo st (kG ev f l a st) (kG ew f l a (st+d)):=by
 unfold kG
 cases f.body with
 |none=>exact BY hs
 |some b=>
  cases da f.scp f.names l with|none=>exact iD|some s=>exact h _ _ _
theorem Bes.le{r q:Option Ev}{s:Int}(h:Bes d mo s r q)(hs:st<=s):Bes d mo st r q:=fun e he=>by obtain⟨g1,g2,g3⟩:=h e he;exact⟨g1,by omega,g3⟩
theorem yS{ev ew:EvT}(h:kN d mo ev ew)(hd:0<=d)(hm:mo+d<=1000000)(a:Int)(l:List Thg):Bes d mo st (fO ev mo a l st) (fO ew (mo+d) a l (st+d)):=by
 unfold fO;by_cases c:¬nC mo st∨l.length=0∨1000000<l.length
 ·rw[MT c];exact iD
 have c1:nC mo st:=Classical.byContradiction fun q=>c (.inl q);have hs:st<=mo:=c1.2.1
 have c2:¬(¬nC (mo+d) (st+d)∨l.length=0∨1000000<l.length):=by
  rintro(q|q)
  ·exact q ⟨by have:=c1.1;omega,by omega,hm⟩
  ·exact c (.inr q)
 rw[MS c,MS c2];refine bC (fun _=>?_) (fun _=>ko hs);by_cases q:st=mo
 ·rw[MT q,MT (by omega)];exact ko hs
 ·rw[MS q,MS (by omega),show st+d+1=st+1+d by omega];exact(yR h _ _ _ (by omega)).le (by omega)
theorem yT{ev ew:EvT}(h:kN d mo ev ew)(t:Trm)(p:Plc)(x:Thg)(hs:st<=mo):Bes d mo st (lJ ev t p x st) (lJ ew t p x (st+d)):=by
 unfold lJ;refine bC (fun _=>?_) (fun _=>bC (fun _=>?_) (fun _=>bC (fun _=>?_) (fun _=>?_)))
 ·unfold sV;exact bC (fun _=>bC (fun _=>iD) (fun _=>gT hs)) (fun _=>ko hs)
 ·unfold ifE;exact bC (fun _=>bC (fun _=>jx (h _ _ _)) (fun _=>iD)) (fun _=>ko hs)
 ·unfold sX sW;exact bC (fun _=>bC (fun _=>iD) (fun _=>jx (h _ _ _))) (fun _=>ko hs)
 ·unfold Hz;exact bC (fun _=>bC (fun _=>iD) (fun _=>gT hs)) (fun _=>ko hs)
theorem HF{ev ew:EvT}(h:kN d mo ev ew)(hd:0<=d)(hm:mo+d<=1000000)(t:Trm)(p:Plc)(hs:st<=mo):Bes d mo st (ot ev mo t p st) (ot ew (mo+d) t p (st+d)):=by
 unfold ot;refine bC (fun _=>gT hs) (fun _=>?_);refine bC (fun _=>gT hs) (fun _=>?_);refine bC (fun _=>gT hs) (fun _=>?_);apply bC<;>intro _
 ·unfold HB HA;exact bC (fun _=>gT hs) (fun _=>ko hs)
 refine bC (fun _=>jx (gT hs)) (fun _=>?_);refine bC (fun _=>lL (ig h p _ hs) (fun v s _ _=>yS h hd hm _ _)) (fun _=>?_);refine bC (fun _=>lL (ig h p _ hs) (fun v s _ q=>gT q)) (fun _=>?_);refine bC (fun _=>lL (ig h p _ hs) (fun v s _ q=>gT q)) (fun _=>?_);refine bC (fun _=>lL (ig h p _ hs) (fun v s _ q=>gT q)) (fun _=>?_);refine bC (fun _=>jx (h _ _ _)) (fun _=>?_);refine bC (fun _=>lL (ig h p _ hs) (fun v s _ q=>gT q)) (fun _=>?_);refine bC (fun _=>jx (DN (h _ _ _) fun v s _ _=>h _ _ _)) (fun _=>?_);exact jx (DN (h _ _ _) fun v s _ q=>yT h t p v q)
theorem tc(hd:0<=d)(hm:mo+d<=1000000):∀(n m:Nat),n<=m->kN d mo (ao mo n) (ao (mo+d) m)
 |0,_,_=>fun t p st e he=>by cases he
 |n+1,m,hnm=>by
  intro t p st e he;obtain⟨m,rfl⟩:∃k,m=k+1:=⟨m-1,by omega⟩;have ih:=tc hd hm n m (by omega);simp only[ao]at he⊢;split at he
  case isFalse=>cases he
  rename_i c;rw[MT (show nC (mo+d) (st+d)from⟨by have:=c.1;omega,by have:=c.2.1;omega,hm⟩)];exact HF ih hd hm t p c.2.1 e he
end Go.Pd
end
section
namespace Go.Pd
open Go Go.AL
theorem HG(u:Nat)(h:u<18446744073709551616):Go.Lib.nDigits u<=20:=by
 rcases Ox u with rfl|h1
 ·rw[Go.Lib.nDigits_small (by omega)];omega
 ·have:=Go.Lib.numDigits_eq u h1 h;split at this<;>omega
theorem BZ(n:Int)(h0:-9223372036854775808<=n)(h1:n<=9223372036854775807):(Go.Lib.itoa n).length<=21:=by
 unfold Go.Lib.itoa;split
 ·rw[Ni,Go.Lib.decDigits_length];have:=HG n.natAbs (by omega);omega
 ·rw[Go.Lib.decDigits_length];have:=HG n.toNat (by omega);omega
theorem K4(n:Int):yO n=if 9223372036854775808<=n%18446744073709551616 then n%18446744073709551616-18446744073709551616 else n%18446744073709551616:=by unfold yO IntKind.wrap;simp[IntKind.bits,IntKind.signed]
theorem mr(n:Int):-9223372036854775808<=yO n/\yO n<=9223372036854775807:=by rw[K4];split<;>omega
def OkX(S:Nat)(t:Trm):Prop:=szT t<=S/\allT aV t=true/\eI t=true
theorem OkX.part{S:Nat}{t x:Trm}(h:OkX S t)(hx:x∈t.parts):OkX S x/\szT x<szT t:=by have h1:=ml hx;have h2:=nA t;have h3:=h.2.1;rw[allT_eq,MR,allTL_all]at h3;exact⟨⟨by have:=h.1;omega,N6.1 h3.2 x hx,BW h.2.2 hx⟩,by omega⟩
theorem yU:∀l:List Trm,l.length<=szTL l
 |[]=>N2 _
 |p::r=>by have:=yU r;have:=kf p;rw[szTL,Ni];omega
structure HeadH(x:Thg):Prop where
 lo:-9223372036854775808<=x.n
 hi:x.n<=9223372036854775807
 txt:x.text.length<=2000000
 nms:x.names.length<=2000000
 pts:x.parts.length<=1000000
 tru:x.kind=3->x.n=0∨x.n=1
 rcd:x.kind=5->x.names.length=x.parts.length
 one:x.kind=6∨x.kind=7->x.parts.length=1
mutual
inductive OkH(S:Nat):Thg->Prop
 |mk (x:Thg) (h:HeadH x) (hp:∀y∈x.parts,OkH S y) (hf:∀f,x.fn=some f->OkF S f):OkH S x
inductive OkF(S:Nat):Fnc->Prop
 |mk (f:Fnc) (hs:OkS S f.scp) (hb:(∃b,f.body=some b/\OkX S b/\f.args=(f.names.length:Int))∨(f.body=none/\((f.args=2/\f.basic∈two)∨(f.args=1/\f.basic∈js)))):OkF S f
inductive OkS(S:Nat):Option Scp->Prop
 |nil:OkS S none
 |bnd (s:Scp) (hw:OkH S s.what) (hr:OkS S s.rest):OkS S (some s)
end
variable {S:Nat}
theorem OkH.head{x:Thg}(h:OkH S x):HeadH x:=by cases h;assumption
theorem OkH.parts{x y:Thg}(h:OkH S x)(hy:y∈x.parts):OkH S y:=by
 cases h with|mk _ _ hp _=>exact hp y hy
theorem OkH.fn{x:Thg}{f:Fnc}(h:OkH S x)(hf:x.fn=some f):OkF S f:=by
 cases h with|mk _ _ _ q=>exact q f hf
theorem OkS.what{s:Scp}(h:OkS S (some s)):OkH S s.what:=by cases h;assumption
theorem OkS.rest{s:Scp}(h:OkS S (some s)):OkS S s.rest:=by cases h;assumption
theorem oA:OkH S jq:=.mk _ ⟨by decide,by decide,by decide,by decide,by decide,by decide,by decide,by decide⟩ (fun y hy=>by cases hy) (fun f hf=>by cases hf)
theorem te{n:Int}(h0:-9223372036854775808<=n)(h1:n<=9223372036854775807):OkH S (BQ n):=
 .mk _ ⟨h0,h1,N2 _,N2 _,N2 _,fun h=>absurd (show(1:Int)=3 from h) (by decide),fun h=>absurd (show(1:Int)=5 from h) (by decide),fun h=>absurd (show(1:Int)=6∨(1:Int)=7 from h) (by decide)⟩ (fun y hy=>by cases hy) (fun f hf=>by cases hf)
theorem C0{s:Str}(h:s.length<=2000000):OkH S (JY s):=
 .mk _ ⟨by show(-9223372036854775808:Int)<=0;decide,by show(0:Int)<=9223372036854775807;decide,h,N2 _,N2 _,fun h=>absurd (show(2:Int)=3 from h) (by decide),fun h=>absurd (show(2:Int)=5 from h) (by decide),fun h=>absurd (show(2:Int)=6∨(2:Int)=7 from h) (by decide)⟩ (fun y hy=>by cases hy) (fun f hf=>by cases hf)
theorem wN(b:Bool):OkH S (pw b):=by cases b<;>exact .mk _ ⟨by decide,by decide,by decide,by decide,by decide,by decide,by decide,by decide⟩ (fun y hy=>by cases hy) (fun f hf=>by cases hf)
theorem HH{f:Fnc}(h:OkF S f):OkH S (Ly f):=
 .mk _ ⟨by show(-9223372036854775808:Int)<=0;decide,by show(0:Int)<=9223372036854775807;decide,N2 _,N2 _,N2 _,fun h=>absurd (show(8:Int)=3 from h) (by decide),fun h=>absurd (show(8:Int)=5 from h) (by decide),fun h=>absurd (show(8:Int)=6∨(8:Int)=7 from h) (by decide)⟩ (fun y hy=>by cases hy) (fun g hg=>by cases hg;exact h)
theorem wO{k:Int}{o x:Str}{ns:List Str}{l:List Thg}(hx:x.length<=2000000)(hn:ns.length<=2000000)(hl:l.length<=1000000)(h3:k≠3)(h5:k=5->ns.length=l.length)(h6:k=6∨k=7->l.length=1)(ha:∀y∈l,OkH S y):OkH S (Hx k o x ns l):=
 .mk _ ⟨by show(-9223372036854775808:Int)<=0;decide,by show(0:Int)<=9223372036854775807;decide,hx,hn,hl,fun h=>absurd h h3,h5,h6⟩ ha (fun g hg=>by cases hg)
theorem mu{s:Option Scp}{o n:Str}{w:Thg}(hs:OkS S s)(hw:OkH S w):OkS S (eC s o n w):=.bnd _ hw hs
theorem HI{k:Int}{s:Option Scp}{n:Str}(hs:OkS S s)(h:(k=2/\n∈two)∨(k=1/\n∈js)):OkS S (kF k s n):=mu hs (HH (.mk _ .nil (.inr ⟨rfl,h⟩)))
theorem Fb:OkS S bN:=by
 have key:∀(k:Int)(l:List Str)(s:Option Scp),OkS S s->(∀n∈l,(k=2/\n∈two)∨(k=1/\n∈js))->OkS S (l.foldl (kF k) s):=by
  intro k l
  induction l with
  |nil=>intro s hs _;exact hs
  |cons a r ih=>intro s hs h;exact ih _ (HI hs (h a (by simp))) fun n hn=>h n (by simp[hn])
 exact key 1 js _ (key 2 two _ .nil fun n hn=>.inl ⟨rfl,hn⟩) fun n hn=>.inr ⟨rfl,hn⟩
theorem DO:∀{s:Option Scp} {o m:Str} {q:Scp},OkS S s->findF s o m=some q->OkH S q.what
 |none,_,_,_,_,h=>by rw[findF]at h;cases h
 |some ⟨p,n,w,r⟩,o,m,q,hs,h=>by
  rw[km]at h;split at h
  ·cases h;exact hs.what
  ·exact DO (s:=r) hs.rest h
theorem mv{l:List Thg}(h:∀y∈l,OkH S y)(i:Nat):OkH S (l.getD i default):=by
 rw[MX]
 cases q:l[i]? with|none=>exact oA|some y=>exact h y (Nf q)
theorem tg:∀{ns:List Str} {l:List Thg} {s:Option Scp},ns.length=l.length->OkS S s->(∀y∈l,OkH S y)->∃u,da s ns l=some u/\OkS S u
 |[],[],s,_,hs,_=>⟨s,rfl,hs⟩
 |n::ns,x::xs,s,h,hs,hl=>tg (ns:=ns) (l:=xs) (by simpa using h) (mu hs (hl x (by simp))) fun y hy=>hl y (by simp[hy])
def HJ(S:Nat)(r:Option Ev):Prop:=∃e,r=some e/\(e.f.err=0->OkH S e.v)
theorem mw{v:Thg}{st:Int}(h:OkH S v):HJ S (okE v st):=⟨_,rfl,fun _=>h⟩
theorem yV{x a st:Int}:HJ S (lG x a st):=⟨_,rfl,fun _=>oA⟩
theorem jz{k:Int}{l:List Thg}{a:Int}{r:Option Ev}(h:eH k l=true->HJ S r):HJ S (ju k l a r):=by
 unfold ju;split
 ·exact h (by assumption)
 ·exact yV
theorem Fc{nm:Str}{l:List Thg}{a:Int}(h:(l.length=2/\nm∈two)∨(l.length=1/\nm∈js))(hl:∀x∈l,OkH S x):HJ S (gj nm l a):=by
 have hne:¬l=[]:=by rintro rfl;rcases h with⟨q,_⟩|⟨q,_⟩<;>cases q
 have h2:nm∉js->¬l.length<2:=by
  intro q;rcases h with⟨e,_⟩|⟨_,e⟩
  ·omega
  ·exact absurd e q
 have i0:=(mv hl 0).head;unfold gj;rw[MS hne];split
 ·exact jz fun _=>mw (wN _)
 rename_i c1;split
 ·rename_i c;subst c;exact jz fun _=>by rw[MS (h2 (by decide))];exact mw (wN _)
 split
 ·rename_i c;subst c;refine jz fun _=>?_;rw[MS (h2 (by decide))];unfold LB;have t0':(tH0 l).length<=2000000:=i0.txt;have t1':(tH1 l).length<=2000000:=(mv hl 1).head.txt;rw[MS (by omega)];split
  ·exact yV
  ·exact mw (C0 (by rw[NK];omega))
 split
 ·have t0':(tH0 l).length<=2000000:=i0.txt;exact jz fun _=>mw (te (by omega) (by omega))
 rename_i c4;refine jz fun _=>?_;unfold K0;have n0':-9223372036854775808<=nH0 l/\nH0 l<=9223372036854775807:=⟨i0.lo,i0.hi⟩;split
 ·have:=BZ (nH0 l) n0'.1 n0'.2;rw[MS (by omega)];exact mw (C0 (by omega))
 rename_i c5
 rw[MS (h2 (by
  intro q;simp only[js,N9,OG,Qs]at q;rcases q with q|q|q
  ·exact c1 q
  ·exact c4 q
  ·exact c5 q))]
 refine mw ?_;split
 ·exact te (mr _).1 (mr _).2
 split
 ·exact te (mr _).1 (mr _).2
 split
 ·exact te (mr _).1 (mr _).2
 split<;>exact wN _
def iN(S:Nat)(mo st:Int)(r:Option Ev):Prop:=∃e,r=some e/\st<=e.st/\e.st<=mo/\(e.f.err=0->OkH S e.v)
def K5(S:Nat)(mo st:Int)(k:Nat)(r:Option EvL):Prop:=∃e,r=some e/\st<=e.st/\e.st<=mo/\(e.f.err=0->e.vs.length=k/\∀y∈e.vs,OkH S y)
variable {mo st:Int}
theorem iE{v:Thg}(hs:st<=mo)(h:OkH S v):iN S mo st (okE v st):=⟨_,rfl,NA _,hs,fun _=>h⟩
theorem kq{x a:Int}(hs:st<=mo):iN S mo st (lG x a st):=⟨_,rfl,NA _,hs,fun _=>oA⟩
theorem iN.le{s:Int}{r:Option Ev}(h:iN S mo s r)(hs:st<=s):iN S mo st r:=by obtain⟨e,h1,h2,h3⟩:=h;exact⟨e,h1,by omega,h3⟩
theorem DQ{r:Option Ev}{k:Thg->Int->Option Ev}(h:iN S mo st r)(hk:∀v s,st<=s->s<=mo->OkH S v->iN S mo s (k v s)):iN S mo st (oq r k):=by
 obtain⟨e,rfl,h1,h2,h3⟩:=h;simp only[oq];split
 ·rename_i c;exact(hk _ _ h1 h2 (h3 c)).le h1
 ·exact⟨_,rfl,h1,h2,fun _=>oA⟩
theorem lM{r:Option EvL}{n:Nat}{k:List Thg->Int->Option Ev}(h:K5 S mo st n r)(hk:∀v s,st<=s->s<=mo->v.length=n->(∀y∈v,OkH S y)->iN S mo s (k v s)):iN S mo st (jt r k):=by
 obtain⟨e,rfl,h1,h2,h3⟩:=h;simp only[jt];split
 ·rename_i c;exact(hk _ _ h1 h2 (h3 c).1 (h3 c).2).le h1
 ·exact⟨_,rfl,h1,h2,fun _=>oA⟩
theorem DR{ev:Trm->Int->Option Ev}:∀(l:List Trm)(out:List Thg)(st:Int),st<=mo->(∀t∈l,∀s,st<=s->s<=mo->iN S mo s (ev t s))->(∀y∈out,OkH S y)->K5 S mo st (out.length+l.length) (gS ev l out st)
 |[],out,st,hs,_,ho=>⟨_,rfl,NA _,hs,fun _=>⟨rfl,ho⟩⟩
 |t::r,out,st,hs,h,ho=>by
  obtain⟨e,he,h1,h2,h3⟩:=h t (by simp) st (NA _) hs;simp only[gS,he];split
  ·rename_i c
   obtain⟨w,hw,g1,g2,g3⟩:=DR r (out++[e.v]) e.st h2 (fun x hx s q=>h x (by simp[hx]) s (by omega)) (by
    intro y hy;rcases Nv.1 hy with q|q
    ·exact ho y q
    ·rw[NB]at q;subst q;exact h3 c)
   refine⟨w,hw,by omega,g2,fun q=>⟨?_,(g3 q).2⟩⟩;rw[(g3 q).1];simp only[NK,Ni,Oi];omega
  ·rename_i c;exact⟨_,rfl,h1,h2,fun q=>absurd q c⟩
theorem Fe{ev:Trm->Int->Option Ev}{l:List Trm}(hs:st<=mo)(hl:l.length<=1000000)(h:∀t∈l,∀s,st<=s->s<=mo->iN S mo s (ev t s)):K5 S mo st l.length (bn ev l st):=by unfold bn;rw[MS (by omega)];have:=DR (S:=S) (mo:=mo) l [] st hs h (fun y hy=>by cases hy);simpa using this
theorem jA{t:Trm}{i:Nat}{r:Option Ev}(hi:i<t.parts.length)(h:iN S mo st r):iN S mo st (fT t i r):=by unfold fT;rw[MS (by omega)];exact h
theorem vj:∀{l:List Str} {v:Str} {i:Int},0<=i->0<=bj l v i->i<=bj l v i/\bj l v i<i+l.length
 |[],v,i,_,h=>by simp[bj]at h
 |a::r,v,i,hi,h=>by
  simp only[bj]at h⊢;split
  ·simp only[Ni];omega
  ·rename_i c;rw[MS c]at h;have:=vj (l:=r) (v:=v) (i:=i+1) (by omega) h;simp only[Ni];omega
theorem yW{l:List Str}{v:Str}(h:0<=bj l v 0):(bj l v 0).toNat<l.length:=by have:=vj (l:=l) (v:=v) (i:=0) (by decide) h;omega
theorem gm{t:Trm}{i:Nat}(h:i<t.parts.length):lI t i∈t.parts:=by unfold lI;rw[MX,MQ h];exact Pn h
theorem yX{t:Trm}{n v s p:Nat}(h:fS t n v s p=true):t.names.length=n/\t.vars.length=v/\t.parts.length=p:=by unfold fS at h;simp only[MR,MV]at h;exact⟨h.1.1.1,h.1.1.2,h.2⟩
structure Kinds(t:Trm):Prop where
 i1:t.kind=1->0<=t.n/\t.n<=999999999999999
 i6:t.kind=6->t.parts.length=1
 i7:t.kind=7->0<t.parts.length
 i8:t.kind=8->t.names.length=t.parts.length
 i10:t.kind=10->t.parts.length=1
 i12:t.kind=12->t.parts.length=3
 i13:t.kind=13->t.vars.length=t.names.length/\t.parts.length=t.names.length+1
 i14:t.kind=14->t.parts.length=2
 i15:t.kind=15->t.parts.length=1
 i16:t.kind=16->t.parts.length=1
 els:t.kind≠1->t.kind≠2->¬(t.kind=3∨t.kind=4)->t.kind≠5->t.kind≠6->t.kind≠7->t.kind≠8->t.kind≠10->t.kind≠11->0<t.parts.length
theorem HK{t:Trm}(h:vd t=true):Kinds t:=by
 constructor
 all_goals intro hk
 case els=>
  intro k2 k3 k5 k6 k7 k8 k10 k11;unfold vd at h;rw[MS hk,MS k2,MS k3,MS k5,MS k6,MS k7,MS k8]at h;have key:∀{b:Bool} {n v s p:Nat},0<p->(b&&fS t n v s p)=true->0<t.parts.length:=fun hp q=>by rw[MR]at q;have:=(yX q.2).2.2;omega
  by_cases d9:t.kind=9∨t.kind=10
  ·rw[MT d9]at h;exact key (by decide) h
  rw[MS d9,MS k11]at h;by_cases d12:t.kind=12
  ·rw[MT d12]at h;exact key (by decide) h
  rw[MS d12]at h;by_cases d13:t.kind=13
  ·rw[MT d13]at h;exact key (by omega) h
  rw[MS d13]at h;by_cases d14:t.kind=14
  ·rw[MT d14]at h;exact key (by decide) h
  rw[MS d14]at h;by_cases d15:t.kind=15
  ·rw[MT d15]at h;exact key (by decide) h
  rw[MS d15]at h;by_cases d16:t.kind=16∨t.kind=17
  ·rw[MT d16]at h;exact key (by decide) h
  rw[MS d16]at h;cases h
 all_goals
  unfold vd at h;simp only[hk,Int.reduceEq,or_self,Qs,or_true,↓reduceIte,MR,MV]at h;have hr:=yX h.2;omega
theorem HL{ev:EvT}{t:Trm}{p:Plc}{x:Thg}(hs:st<=mo)(hk:Kinds t)(h9:0<t.parts.length)(hx:OkH S x)(hp:OkS S p.scp)(h:∀y∈t.parts,∀q:Plc,OkS S q.scp->iN S mo st (ev y q st)):iN S mo st (lJ ev t p x st):=by
 unfold lJ;split
 ·unfold sV;split
  ·rename_i c;have h1:=hx.head.rcd c.1;have h2:=yW (v:=t.name) (l:=x.names) c.2;rw[MS (by omega)];exact iE hs (mv (fun y hy=>hx.parts hy) _)
  ·exact kq hs
 split
 ·rename_i c;unfold ifE;split
  ·rename_i c3;rw[MT (hx.head.tru c3)];have h3:=hk.i12 c;have hlt:(2-x.n).toNat<t.parts.length:=by rcases hx.head.tru c3 with q|q<;>omega
   exact jA hlt (h _ (gm hlt) _ hp)
  ·exact kq hs
 split
 ·rename_i c;unfold sX;split
  ·rename_i c6;obtain⟨g1,g2⟩:=hk.i13 c;have h2:=yW (v:=x.text) (l:=t.names) c6.2;have h1:=hx.head.one (.inl c6.1);unfold sW;rw[MS (by omega)];have hlt:(bj t.names x.text 0).toNat+1<t.parts.length:=by omega
   exact jA hlt (h _ (gm hlt) _ (mu hp (mv (fun y hy=>hx.parts hy) _)))
  ·exact kq hs
 ·unfold Hz;split
  ·rename_i c;have h1:=hx.head.one (.inr c.1);rw[MS (by omega)];exact iE hs (mv (fun y hy=>hx.parts hy) _)
  ·exact kq hs
theorem HM{ev:EvT}{a:Int}{l:List Thg}(h0:0<=st)(hs:st<=mo)(hm:mo<=1000000)(hn:0<l.length)(hl:l.length<=1000000)(ha:∀y∈l,OkH S y)(h:∀b,OkX S b->∀q:Plc,OkS S q.scp->st+1<=mo->iN S mo (st+1) (ev b q (st+1))):iN S mo st (fO ev mo a l st):=by
 unfold fO;rw[MS (show ¬(¬nC mo st∨l.length=0∨1000000<l.length)from fun q=>q.elim (fun q=>q ⟨h0,hs,hm⟩) (by omega))];split
 ·rename_i c;split
  ·exact kq hs
  rename_i c2;refine iN.le (s:=st+1) ?_ (by omega)
  have hf:OkF S (fcn l):=by
   have h1:=c.1;unfold BT at h1;obtain⟨f,hf⟩:=Nz.1 h1;have:fcn l=f:=by unfold fcn;rw[hf];rfl
   rw[this];exact(mv ha 0).fn hf
  have hd:(l.drop 1).length=l.length-1:=P8;have hda:∀y∈l.drop 1,OkH S y:=fun y hy=>ha y (List.mem_of_mem_drop hy)
  cases hf with
  |mk _ hsc hb=>
   rcases hb with⟨b,e1,e2,e3⟩|⟨e1,e2⟩
   ·unfold kG;rw[e1];obtain⟨u,hu,ho⟩:=tg (S:=S) (ns:=(fcn l).names) (l:=l.drop 1) (s:=(fcn l).scp) (by have:=c.2;rw[e3]at this;omega) hsc hda;simp only[hu];exact h b e2 _ ho (by omega)
   ·unfold kG;rw[e1];have:=c.2
    obtain⟨e,he,hh⟩:=Fc (S:=S) (nm:=(fcn l).basic) (l:=l.drop 1) (a:=a) (by
     rcases e2 with⟨q1,q2⟩|⟨q1,q2⟩
     ·exact .inl ⟨by omega,q2⟩
     ·exact .inr ⟨by omega,q2⟩) hda
    simp only[he,px];exact⟨_,rfl,NA _,by show st+1<=mo;omega,hh⟩
 ·exact kq hs
theorem yY(hS:S<=1000000)(hm:mo<=1000000):∀(n:Nat)(t:Trm)(p:Plc)(st:Int),0<=st->st<=mo->OkX S t->OkS S p.scp->(mo-st).toNat *(S+2)+szT t<=n->iN S mo st (ao mo n t p st)
 |0,t,p,st,_,_,_,_,h=>absurd h (by have:=kf t;omega)
 |n+1,t,p,st,h0,hs,hx,hp,hn=>by
  have hz:=nA t;have hS':=hx.1;have hl:t.parts.length<=1000000:=by have:=yU t.parts;omega
  have ih:=yY hS hm n;have rec':∀y∈t.parts,∀q:Plc,OkS S q.scp->∀s,st<=s->s<=mo->iN S mo s (ao mo n y q s):=fun y hy q hq s g1 g2=>by obtain⟨k1,k2⟩:=hx.part hy;have:=Nq (S+2) (show(mo-s).toNat<=(mo-st).toNat by omega);exact ih y q s (by omega) g2 k1 hq (by omega)
  have recB:∀b,OkX S b->∀q:Plc,OkS S q.scp->∀s,st<s->s<=mo->iN S mo s (ao mo n b q s):=fun b hb q hq s g1 g2=>by have:=Nq (S+2) (show(mo-s).toNat+1<=(mo-st).toNat by omega);rw[NC,Pj]at this;have:=hb.1;exact ih b q s (by omega) g2 hb hq (by omega)
  have hfit:=hx.2.1;rw[allT_eq,MR]at hfit;have hfit:=hfit.1;unfold aV at hfit;rw[MR]at hfit;have hk:=HK hfit.2;have hnm:=BX hx.2.2;have hpts:K5 S mo st t.parts.length (bn (fun x=>ao mo n x p) t.parts st):=Fe hs hl fun y hy s g1 g2=>rec' y hy p hp s g1 g2;simp only[ao];rw[MT (show nC mo st from⟨h0,hs,hm⟩)];unfold ot;by_cases c1:t.kind=1
  ·have c:=c1;rw[MT c1];have:=hk.i1 c;exact iE hs (te (by omega) (by omega))
  rw[MS c1];by_cases c2:t.kind=2
  ·rw[MT c2];exact iE hs (C0 hnm.1)
  rw[MS c2];by_cases c3:t.kind=3∨t.kind=4
  ·rw[MT c3];exact iE hs (wN _)
  rw[MS c3];by_cases c5:t.kind=5
  ·rw[MT c5];unfold HB HA;split
   ·rename_i c;obtain⟨q,hq⟩:=Nz.1 c;rw[hq];exact iE hs (DO hp hq)
   ·exact kq hs
  rw[MS c5];by_cases c6:t.kind=6
  ·have c:=c6;rw[MT c6];have:=hk.i6 c;exact jA (by omega) (iE hs (HH (.mk _ hp (.inl ⟨_,rfl,(hx.part (gm (by omega))).1,rfl⟩))))
  rw[MS c6];by_cases c7:t.kind=7
  ·have c:=c7;rw[MT c7];have:=hk.i7 c;exact lM hpts fun v s g1 g2 g3 g4=>HM (by omega) g2 hm (by omega) (by omega) g4 fun b hb q hq g5=>recB b hb q hq _ (by omega) g5
  rw[MS c7];by_cases c8:t.kind=8
  ·have c:=c8;rw[MT c8];have:=hk.i8 c;exact lM hpts fun v s g1 g2 g3 g4=>iE g2 (wO (N2 _) hnm.2 (by omega) (by decide) (fun _=>by omega) (fun q=>absurd q (by decide)) g4)
  rw[MS c8];by_cases c10:t.kind=10
  ·have c:=c10;rw[MT c10];have:=hk.i10 c;exact lM hpts fun v s g1 g2 g3 g4=>iE g2 (wO hnm.1 (N2 _) (by omega) (by decide) (fun q=>absurd q (by decide)) (fun q=>by omega) g4)
  rw[MS c10];by_cases c11:t.kind=11
  ·rw[MT c11];exact lM hpts fun v s g1 g2 g3 g4=>iE g2 (wO (N2 _) (N2 _) (by omega) (by decide) (fun q=>absurd q (by decide)) (fun q=>absurd q (by decide)) g4)
  rw[MS c11];by_cases c15:t.kind=15
  ·have c:=c15;rw[MT c15];have:=hk.i15 c;exact jA (by omega) (rec' _ (gm (by omega)) p hp st (NA _) hs)
  rw[MS c15];by_cases c16:t.kind=16
  ·have c:=c16;rw[MT c16];have:=hk.i16 c;exact lM hpts fun v s g1 g2 g3 g4=>iE g2 (wO hnm.1 (N2 _) (by omega) (by decide) (fun q=>absurd q (by decide)) (fun q=>by omega) g4)
  rw[MS c16];by_cases c14:t.kind=14
  ·have c:=c14;rw[MT c14];have:=hk.i14 c;exact jA (by omega) (DQ (rec' _ (gm (by omega)) p hp st (NA _) hs) fun v s g1 g2 g3=>rec' _ (gm (by omega)) _ (mu hp g3) s g1 g2)
  rw[MS c14];have h9:=hk.els c1 c2 c3 c5 c6 c7 c8 c10 c11;exact jA h9 (DQ (rec' _ (gm h9) p hp st (NA _) hs) fun v s g1 g2 g3=>HL g2 hk h9 g3 hp fun y hy q hq=>rec' y hy q hq s g1 g2)
end Go.Pd
end
section
namespace Go.Pd
open Go.AL
mutual
def bareT:Trm->Trm
 |⟨k,g,n,z,ns,vs,ss,ps,_⟩=>⟨k,g,n,z,ns,vs,ss,bareTL ps,0⟩
def bareTL:List Trm->List Trm
 |[]=>[]
 |p::r=>bareT p::bareTL r
end
theorem C1{t:Trm}(ht:cY t=0):allT aV t=true:=by
 unfold cY at ht;by_cases a:4096<(countT t 4096).1
 ·rw[MT a]at ht;exact absurd ht (by decide)
 rw[MS a]at ht;by_cases b:40<(countT t 4096).2
 ·rw[MT b]at ht;exact absurd ht (by decide)
 rw[MS b]at ht;by_cases c:allT aV t=true
 ·exact c
 ·rw[MS c]at ht;exact absurd ht (by decide)
theorem C2{t:Trm}(h:cY t=0):szT t<=4096/\deepT t<=40:=by
 unfold cY at h;by_cases a:4096<(countT t 4096).1
 ·rw[MT a]at h;exact absurd h (by decide)
 rw[MS a]at h;rw[countT_size t 4096 (by omega)]at a;by_cases b:40<(countT t 4096).2
 ·rw[MT b]at h;exact absurd h (by decide)
 rw[countT_deep t 4096 (by omega)]at b;omega
end Go.Pd
end
section
namespace Go.Pd
open Go Go.AL
variable {S:Nat}
theorem HN{x:Thg}{ps:List Vlu}(hn:x.names.length<=8796093022208)(h:∀v∈ps,cA v=true):cA (HC x ps)=true:=by unfold cA;rw[wK,MR,N6];exact⟨Xd hn,h⟩
theorem yZ{td:Thg->Int->Option Td}:∀(l:List Thg)(out:List Vlu)(r:Int),0<=r->
  (∀x∈l,∀s,0<=s->s<=r->∃t,td x s=some t/\t.room<s/\(t.ok=true->0<=t.room/\cA t.v=true))->(∀v∈out,cA v=true)->
  ∃t,iC td l out r=some t/\t.room<=r/\(t.ok=true->0<=t.room/\∀v∈t.vs,cA v=true)
 |[],out,r,hr,_,ho=>⟨_,rfl,NA _,fun _=>⟨hr,ho⟩⟩
 |x::l,out,r,hr,h,ho=>by
  obtain⟨t,ht,h1,h2⟩:=h x (by simp) r hr (NA _);simp only[iC,ht];by_cases c:t.ok=true
  ·rw[MT c];obtain⟨h3,h4⟩:=h2 c
   obtain⟨w,hw,g1,g2⟩:=yZ l (out++[t.v]) t.room h3 (fun y hy s q1 q2=>h y (by simp[hy]) s q1 (by omega)) (by
    intro v hv;rcases Nv.1 hv with q|q
    ·exact ho v q
    ·rw[NB]at q;subst q;exact h4)
   exact⟨w,hw,by omega,g2⟩
  ·rw[MS c];exact⟨_,rfl,by show t.room<=r;omega,fun q=>by cases q⟩
theorem z6:∀(m:Nat)(x:Thg)(r:Int),OkH S x->0<=r->r<=1000000->r.toNat<m->∃t,dD m x r=some t/\t.room<r/\(t.ok=true->0<=t.room/\cA t.v=true)
 |0,_,_,_,_,_,h=>absurd h (Nat.not_lt_zero _)
 |m+1,x,r,hx,h0,h1,hm=>by
  have hh:=hx.head;have hn:=hh.nms;have hp:=hh.pts;simp only[dD];rw[MS (show ¬¬sZ r from fun q=>q ⟨h0,h1⟩)];by_cases c:r-1<0
  ·rw[MT c];exact⟨_,rfl,by show r-1<r;omega,fun q=>by cases q⟩
  rw[MS c,MS (by omega)];obtain⟨w,hw,g1,g2⟩:=yZ (td:=dD m) x.parts [] (r-1) (by omega) (fun y hy s q1 q2=>z6 m y s (hx.parts hy) q1 (by omega) (by omega)) (fun v hv=>by cases hv);rw[hw];refine⟨_,rfl,by show w.room<r;omega,fun q=>?_⟩;have q:w.ok=true:=q;obtain⟨g3,g4⟩:=g2 q;refine⟨g3,?_⟩;show cA (if w.ok=true then HC x w.vs else fv)=true;rw[MT q];exact HN (by omega) g4
theorem Ff{m:Nat}{x:Thg}{a:Int}(hx:OkH S x)(hm:2000<m):∃s,cb m x a=some s/\szV s.v<=2000:=by
 obtain⟨t,ht,h1,h2⟩:=z6 m x 2000 hx (by decide) (by decide) (show(2000:Int).toNat<m from hm);unfold cb;rw[ht];simp only;by_cases c:t.ok=true
 ·rw[MT c,MT (h2 c).2];by_cases d:ow t.v=0
  ·rw[MT d];refine⟨_,rfl,?_⟩;unfold ow at d;by_cases e:2000<szV t.v
   ·rw[MT e]at d;cases d
   ·exact Nat.not_lt.1 e
  ·rw[MS d];exact⟨_,rfl,by show szV fv<=2000;decide⟩
 ·rw[MS c];exact⟨_,rfl,by show szV fv<=2000;decide⟩
end Go.Pd
end
section
namespace Go.Pd
open Go Go.AL
def ug(r:Option Ev):Prop:=∀e,r=some e->e.f.err≠292
theorem jB:ug none:=fun e h=>by cases h
theorem pA{v:Thg}{st:Int}:ug (okE v st):=fun e h=>by cases cZ h;show(0:Int)≠292;decide
theorem DS{x a st:Int}(hx:x≠292):ug (lG x a st):=fun e h=>by cases cH h;exact hx
theorem ez{c:Prop}[Decidable c]{a b:Option Ev}(h1:ug a)(h2:ug b):ug (if c then a else b):=by
 split
 ·exact h1
 ·exact h2
theorem lN{k:Int}{l:List Thg}{a:Int}{r:Option Ev}(h:ug r):ug (ju k l a r):=ez h (DS (by decide))
theorem Fg(nm:Str)(l:List Thg)(a:Int):ug (gj nm l a):=by
 unfold gj;refine ez jB (ez (lN pA) (ez (lN (ez jB pA)) (ez (lN (ez jB ?_)) (ez (lN pA) (lN ?_)))))
 ·exact ez jB (ez (DS (by decide)) pA)
 ·unfold K0;exact ez (ez jB pA) (ez jB pA)
def Mns(k st:Int)(r q:Option Ev):Prop:=∀e,r=some e->st<=e.st/\e.st<=k/\((e.f.err≠292/\q=some e)∨(e.f.err=292/\∀y,q=some y->y.f.err≠0∨k<y.st))
def LN(k st:Int)(r q:Option EvL):Prop:=∀e,r=some e->st<=e.st/\e.st<=k/\((e.f.err≠292/\q=some e)∨(e.f.err=292/\∀y,q=some y->y.f.err≠0∨k<y.st))
def wP(k:Int)(ev ew:EvT):Prop:=∀t p st,Mns k st (ev t p st) (ew t p st)
variable {k mo st:Int}
theorem iF{v:Thg}(h:st<=k):Mns k st (okE v st) (okE v st):=by intro e he;cases cZ he;exact⟨NA _,h,.inl ⟨by show(0:Int)≠292;decide,rfl⟩⟩
theorem my{x a:Int}(h:st<=k)(hx:x≠292):Mns k st (lG x a st) (lG x a st):=by intro e he;cases cH he;exact⟨NA _,h,.inl ⟨hx,rfl⟩⟩
theorem iG{q:Option Ev}:Mns k st none q:=fun e he=>by cases he
theorem bD{c:Prop}[Decidable c]{a b a2 b2:Option Ev}(h1:c->Mns k st a a2)(h2:¬c->Mns k st b b2):Mns k st (if c then a else b) (if c then a2 else b2):=by
 by_cases h:c
 ·rw[MT h,MT h];exact h1 h
 ·rw[MS h,MS h];exact h2 h
theorem jC{t:Trm}{i:Nat}{a b:Option Ev}(h:Mns k st a b):Mns k st (fT t i a) (fT t i b):=bD (fun _=>iG) (fun _=>h)
theorem HO{x:Ev}{K:Thg->Int->Option Ev}(c:x.f.err=0):oq (some x) K=K x.v x.st:=MT c
theorem C3{x:Ev}{K:Thg->Int->Option Ev}(c:¬x.f.err=0):oq (some x) K=some ⟨x.f,jq,x.st⟩:=MS c
theorem DT{x:EvL}{K:List Thg->Int->Option Ev}(c:x.f.err=0):jt (some x) K=K x.vs x.st:=MT c
theorem wQ{x:EvL}{K:List Thg->Int->Option Ev}(c:¬x.f.err=0):jt (some x) K=some ⟨x.f,jq,x.st⟩:=MS c
theorem DU{r q:Option Ev}{K J:Thg->Int->Option Ev}(h:Mns k st r q)(hq:Bes 0 mo st q q)(hk:∀v s,st<=s->s<=k->Mns k s (K v s) (J v s))(hj:∀v s,s<=mo->Bes 0 mo s (J v s) (J v s)):Mns k st (oq r K) (oq q J):=by
 intro e he
 cases r with
 |none=>cases he
 |some x=>
  obtain⟨h1,h2,⟨h3,rfl⟩|⟨h3,h4⟩⟩:=h x rfl
  ·by_cases c:x.f.err=0
   ·rw[HO c]at he⊢;obtain⟨g1,g2,g3⟩:=hk x.v x.st h1 h2 e he;exact⟨by omega,g2,g3⟩
   ·rw[C3 c]at he⊢;cases he;exact⟨h1,h2,.inl ⟨h3,rfl⟩⟩
  ·rw[C3 (by omega)]at he;cases he;refine⟨h1,h2,.inr ⟨h3,fun y hy=>?_⟩⟩
   cases q with
   |none=>cases hy
   |some z=>
    by_cases c:z.f.err=0
    ·rw[HO c]at hy;have g:=hj z.v z.st (hq z rfl).2.2 y hy;have:=(h4 z rfl).resolve_left (fun n=>n c);exact .inr (by have:=g.2.1;omega)
    ·rw[C3 c]at hy;cases hy;exact .inl c
theorem lO{r q:Option EvL}{K J:List Thg->Int->Option Ev}(h:LN k st r q)(hq:wL 0 mo st q q)(hk:∀v s,st<=s->s<=k->Mns k s (K v s) (J v s))(hj:∀v s,s<=mo->Bes 0 mo s (J v s) (J v s)):Mns k st (jt r K) (jt q J):=by
 intro e he
 cases r with
 |none=>cases he
 |some x=>
  obtain⟨h1,h2,⟨h3,rfl⟩|⟨h3,h4⟩⟩:=h x rfl
  ·by_cases c:x.f.err=0
   ·rw[DT c]at he⊢;obtain⟨g1,g2,g3⟩:=hk x.vs x.st h1 h2 e he;exact⟨by omega,g2,g3⟩
   ·rw[wQ c]at he⊢;cases he;exact⟨h1,h2,.inl ⟨h3,rfl⟩⟩
  ·rw[wQ (by omega)]at he;cases he;refine⟨h1,h2,.inr ⟨h3,fun y hy=>?_⟩⟩
   cases q with
   |none=>cases hy
   |some z=>
    by_cases c:z.f.err=0
    ·rw[DT c]at hy;have g:=hj z.vs z.st (hq z rfl).2.2 y hy;have:=(h4 z rfl).resolve_left (fun n=>n c);exact .inr (by have:=g.2.1;omega)
    ·rw[wQ c]at hy;cases hy;exact .inl c
theorem HP{r:Option Ev}(h:∀e,r=some e->st<=e.st/\e.st<=mo):Bes 0 mo st r r:=fun e he=>⟨by rw[he];show some e=some ⟨e.f,e.v,e.st+0⟩;rw[Qr],h e he⟩
theorem Bes.self{r q:Option Ev}(h:Bes 0 mo st r q):Bes 0 mo st r r:=HP fun e he=>(h e he).2
theorem kN.at{ev:EvT}(h:kN 0 mo ev ev)(t:Trm)(p:Plc)(st:Int):Bes 0 mo st (ev t p st) (ev t p st):=(show Bes 0 mo st (ev t p st) (ev t p (st+0))from h t p st).self
theorem wL.self{r q:Option EvL}(h:wL 0 mo st r q):wL 0 mo st r r:=fun e he=>⟨by rw[he];show some e=some ⟨e.f,e.vs,e.st+0⟩;rw[Qr],(h e he).2⟩
theorem DV{ev ew:EvT}(h:wP k ev ew)(hw:kN 0 mo ew ew)(p:Plc):∀(l:List Trm)(out:List Thg)(st:Int),st<=k->LN k st (gS (fun x=>ev x p) l out st) (gS (fun x=>ew x p) l out st)
 |[],out,st,hs=>by intro e he;simp only[gS,Xs]at he⊢;subst he;exact⟨NA _,hs,.inl ⟨by show(0:Int)≠292;decide,rfl⟩⟩
 |t::r,out,st,hs=>by
  intro e he
  cases hx:ev t p st with
  |none=>simp only[gS,hx]at he;cases he
  |some x=>
   rw[jy (ev:=fun x=>ev x p) hx]at he;obtain⟨h1,h2,⟨h3,h4⟩|⟨h3,h4⟩⟩:=h t p st x hx
   ·rw[jy (ev:=fun x=>ew x p) h4];by_cases c:x.f.err=0
    ·rw[MT c]at he⊢;obtain⟨g1,g2,g3⟩:=DV h hw p r _ x.st h2 e he;exact⟨by omega,g2,g3⟩
    ·rw[MS c]at he⊢;cases he;exact⟨h1,h2,.inl ⟨h3,rfl⟩⟩
   ·rw[MS (by omega)]at he;cases he;refine⟨h1,h2,.inr ⟨h3,fun y hy=>?_⟩⟩
    cases hz:ew t p st with
    |none=>simp only[gS,hz]at hy;cases hy
    |some z=>
     rw[jy (ev:=fun x=>ew x p) hz]at hy;by_cases c:z.f.err=0
     ·rw[MT c]at hy;have g:=(wM hw p r (out++[z.v]) z.st (hw.at t p st z hz).2.2 y hy).2.1;have:=(h4 z hz).resolve_left (fun n=>n c);exact .inr (by omega)
     ·rw[MS c]at hy;cases hy;exact .inl c
theorem jD{ev ew:EvT}(h:wP k ev ew)(hw:kN 0 mo ew ew)(p:Plc)(l:List Trm)(hs:st<=k):LN k st (bn (fun x=>ev x p) l st) (bn (fun x=>ew x p) l st):=by
 unfold bn;by_cases c:1000000<l.length
 ·rw[MT c];intro e he;cases he
 ·rw[MS c,MS c];exact DV h hw p l [] st hs
theorem C4{r:Option Ev}(h:st<=k)(hn:ug r):Mns k st (px r st) (px r st):=by
 intro e he
 cases r with
 |none=>cases he
 |some x=>cases he;exact⟨NA _,h,.inl ⟨hn x rfl,rfl⟩⟩
theorem HQ{ev ew:EvT}(h:wP k ev ew)(f:Fnc)(l:List Thg)(a:Int)(hs:st<=k):Mns k st (kG ev f l a st) (kG ew f l a st):=by
 unfold kG
 cases f.body with
 |none=>exact C4 hs (Fg _ _ _)
 |some b=>
  cases da f.scp f.names l with|none=>exact iG|some s=>exact h _ _ _
theorem Mns.le{r q:Option Ev}{s:Int}(h:Mns k s r q)(hs:st<=s):Mns k st r q:=fun e he=>by obtain⟨g1,g2,g3⟩:=h e he;exact⟨by omega,g2,g3⟩
theorem HR{ev ew:EvT}(h:wP k ev ew)(hw:kN 0 mo ew ew)(hd:k<=mo)(hm:mo<=1000000)(a:Int)(l:List Thg):Mns k st (fO ev k a l st) (fO ew mo a l st):=by
 unfold fO;by_cases c:¬nC k st∨l.length=0∨1000000<l.length
 ·rw[MT c];exact iG
 have c1:nC k st:=Classical.byContradiction fun q=>c (.inl q);have hs:st<=k:=c1.2.1
 have c2:¬(¬nC mo st∨l.length=0∨1000000<l.length):=by
  rintro(q|q)
  ·exact q ⟨c1.1,by omega,hm⟩
  ·exact c (.inr q)
 rw[MS c,MS c2];refine bD (fun _=>?_) (fun _=>my hs (by decide));by_cases q:st=k
 ·rw[MT q];intro e he;cases cH he;refine⟨NA _,hs,.inr ⟨rfl,fun y hy=>?_⟩⟩;by_cases z:st=mo
  ·rw[MT z]at hy;cases cH hy;exact .inl (by show(292:Int)≠0;decide)
  ·rw[MS z]at hy;have g:Bes 0 mo (st+1) (kG ew (fcn l) (l.drop 1) a (st+1)) (kG ew (fcn l) (l.drop 1) a (st+1+0)):=yR hw _ _ _ (by omega);exact .inr (by have:=(g y hy).2.1;omega)
 ·rw[MS q,MS (by omega)];exact(HQ h _ _ _ (by omega)).le (by omega)
theorem HS{ev ew:EvT}(h:wP k ev ew)(t:Trm)(p:Plc)(x:Thg)(hs:st<=k):Mns k st (lJ ev t p x st) (lJ ew t p x st):=by
 unfold lJ;refine bD (fun _=>?_) (fun _=>bD (fun _=>?_) (fun _=>bD (fun _=>?_) (fun _=>?_)))
 ·unfold sV;exact bD (fun _=>bD (fun _=>iG) (fun _=>iF hs)) (fun _=>my hs (by decide))
 ·unfold ifE;exact bD (fun _=>bD (fun _=>jC (h _ _ _)) (fun _=>iG)) (fun _=>my hs (by decide))
 ·unfold sX sW;exact bD (fun _=>bD (fun _=>iG) (fun _=>jC (h _ _ _))) (fun _=>my hs (by decide))
 ·unfold Hz;exact bD (fun _=>bD (fun _=>iG) (fun _=>iF hs)) (fun _=>my hs (by decide))
theorem HT{ev ew:EvT}(h:wP k ev ew)(hw:kN 0 mo ew ew)(hd:k<=mo)(hm:mo<=1000000)(t:Trm)(p:Plc)(hs:st<=k):Mns k st (ot ev k t p st) (ot ew mo t p st):=by
 have pp:∀l,wL 0 mo st (bn (fun x=>ew x p) l st) (bn (fun x=>ew x p) l st):=fun l=>wL.self (q:=bn (fun x=>ew x p) l (st+0)) (ig hw p l (by omega));have oo:∀(f:List Thg->Thg)(v:List Thg)(s:Int),s<=mo->Bes 0 mo s (okE (f v) s) (okE (f v) s):=fun f v s hs=>Bes.self (q:=okE (f v) (s+0)) (gT hs);unfold ot;refine bD (fun _=>iF hs) (fun _=>?_);refine bD (fun _=>iF hs) (fun _=>?_);refine bD (fun _=>iF hs) (fun _=>?_);apply bD<;>intro _
 ·unfold HB HA;exact bD (fun _=>iF hs) (fun _=>my hs (by decide))
 refine bD (fun _=>jC (iF hs)) (fun _=>?_);refine bD (fun _=>lO (jD h hw p _ hs) (pp _) (fun v s _ _=>HR h hw hd hm _ _) (fun v s q=>Bes.self (q:=fO ew (mo+0) _ v (s+0)) (yS hw (NA _) (by omega) _ _))) (fun _=>?_);refine bD (fun _=>lO (jD h hw p _ hs) (pp _) (fun v s _ q=>iF q) (oo _)) (fun _=>?_);refine bD (fun _=>lO (jD h hw p _ hs) (pp _) (fun v s _ q=>iF q) (oo _)) (fun _=>?_);refine bD (fun _=>lO (jD h hw p _ hs) (pp _) (fun v s _ q=>iF q) (oo _)) (fun _=>?_);refine bD (fun _=>jC (h _ _ _)) (fun _=>?_);refine bD (fun _=>lO (jD h hw p _ hs) (pp _) (fun v s _ q=>iF q) (oo _)) (fun _=>?_);refine bD (fun _=>jC (DU (h _ _ _) (hw.at _ _ _) (fun v s _ _=>h _ _ _) (fun v s _=>hw.at _ _ _))) (fun _=>?_);exact jC (DU (h _ _ _) (hw.at _ _ _) (fun v s _ q=>HS h t p v q) (fun v s q=>Bes.self (q:=lJ ew t p v (s+0)) (yT hw t p v q)))
theorem z7(hd:k<=mo)(hm:mo<=1000000):∀(n m:Nat),n<=m->wP k (ao k n) (ao mo m)
 |0,_,_=>fun t p st e he=>by cases he
 |n+1,m,hnm=>by
  intro t p st e he;obtain⟨m,rfl⟩:∃k,m=k+1:=⟨m-1,by omega⟩;have ih:=z7 hd hm n m (by omega)
  have hw:kN 0 mo (ao mo m) (ao mo m):=by
   have q:=tc (d:=0) (mo:=mo) (NA _) (by omega) m m (N8 _)
   rwa [Qr]at q
  simp only[ao]at he⊢;split at he
  case isFalse=>cases he
  rename_i c;rw[MT (show nC mo st from⟨c.1,by have:=c.2.1;omega,hm⟩)];exact HT ih hw hd hm t p c.2.1 e he
end Go.Pd
end
section
namespace Go.Pd
open Go.AL
variable {l:List Tokn} {R:PS->Trm×PS}
end Go.Pd
namespace Go.Pd
open Go.AL
structure TokG(t:Tokn):Prop where
 kind:¬t.kind=0
 name:t.kind=1->ay t.text=true
 upper:t.kind=2->dh t.text=true
 num:t.kind=3->sF t.text
 pos:0<=t.pos
end Go.Pd
namespace Go.Pd
open Go.AL
end Go.Pd
end
section
namespace Go.Pd
open Go.AL
mutual
theorem eqS_eq:∀{a b:Shape},eqS a b=true->a=b
 |⟨k,p,n,ns,ps⟩,⟨k',p',n',ns',ps'⟩,h=>by simp only[eqS,MR,MV]at h;obtain⟨⟨⟨⟨rfl,rfl⟩,rfl⟩,rfl⟩,h⟩:=h;rw[eqL_eq h]
theorem eqL_eq:∀{a b:List Shape},eqL a b=true->a=b
 |[],[],_=>rfl
 |[],_::_,h=>by simp[eqL]at h
 |_::_,[],h=>by simp[eqL]at h
 |a::r,b::s,h=>by simp only[eqL,MR]at h;rw[eqS_eq h.1,eqL_eq h.2]
end
end Go.Pd
end
section
namespace Go.Pd
open Go.AL
def L3(env:Envt)(b:List Bndg):Envt:=⟨env.self,env.types,env.values++b,env.own⟩
end Go.Pd
end
noncomputable section
namespace Go.Pd
open Go.AL
def C5:List Bndg->Str->Str->Option Shape
 |[],_,_=>none
 |b::r,o,m=>match C5 r o m with
  |some s=>some s
  |none=>if b.pkg=o/\b.name=m then some b.shape else none
end Go.Pd
end
section
namespace Go.Pd
open Go.AL
structure RoomR(t:Trm):Prop where
 k6:t.kind=6->t.names.length<=4096/\t.shapes.length=t.names.length/\t.parts.length=1
 k7:t.kind=7->0<t.parts.length
 k1:t.kind=9∨t.kind=10∨t.kind=16∨t.kind=17->t.parts.length=1
 k11:t.kind=11->t.shapes.length=1
 k12:t.kind=12->t.shapes.length=1/\t.parts.length=3
 k13:t.kind=13->t.vars.length=t.names.length/\t.shapes.length=t.names.length+1/\t.parts.length=t.names.length+1
 k14:t.kind=14->t.parts.length=2
 k15:t.kind=15->t.shapes.length=1/\t.parts.length=1
 all:1<=t.kind/\t.kind<=17
end Go.Pd
end
section
namespace Go.Pd
open Go.AL
section Agree
variable {T U:Trm->Envt->Shape×Flt} {R:Envt->Envt->Prop} {Q:Trm->Prop}
variable (hT:∀p,Q p->∀e f,R e f->T p e=U p f) (hW:∀e f l,R e f->R (L3 e l) (L3 f l))
include hT
include hW
end Agree
structure Alike(b:Bndg)(e f:Envt):Prop where
 types:e.types=f.types
 own:e.own=f.own
 self:e.self=f.self
 vals:∀o m,¬(o=b.pkg/\m=b.name)->C5 e.values o m=C5 f.values o m
end Go.Pd
end
section
namespace Go.Pd
open Go.AL
def zapF(f:Flt):Flt:=⟨f.err,0⟩
def zapR(r:Shape×Flt):Shape×Flt:=(r.1,zapF r.2)
section Bare
variable {T:Trm->Envt->Shape×Flt} (hT:∀p e,T (bareT p) e=zapR (T p e))
include hT
end Bare
section Bare2
variable {T:Trm->Envt->Shape×Flt} (hT:∀p e,T (bareT p) e=zapR (T p e))
include hT
end Bare2
end Go.Pd
end
section
namespace Go.Pd
open Go.AL
def noS(s:Shape):Bool:=decide (s.kind=0)&&decide (s.pkg=[])&&decide (s.name=[])&&decide (s.names.length+s.parts.length=0)
def noT(t:Trm):Bool:=decide (t.kind=0)&&decide (t.pkg=[])&&decide (t.name=[])&&decide (t.n=0)&&decide (t.pos=0)&&decide (t.names.length+t.vars.length+t.shapes.length+t.parts.length=0)
def Jv:Shape:=⟨0,[],[],[],[]⟩
def kO:List Str:=[[73,110,116],[66,111,111,108],[84,101,120,116],[65,110,121]]
def nD(x:Impt):Bool:=ay x.name&&decide (dx x.pin=0)&&decide (mD x.range=0)&&dj x.pin x.range&&decide (0<=x.pos)
def gX(d:Dcl):Bool:=
 if d.kind=1∨d.kind=2 then dh d.name&&decide (di d.shape=0)&&allS aI d.shape&&noT d.term
 else if d.kind=3 then ay d.name&&decide (cY d.term=0)&&noS d.shape else false
def mE(d:Dcl):Bool:=gX d&&decide (0<=d.pos)
def lP(s:Str):Bool:=ay s||dh s
def vk(m:Modu):Bool:=ay m.name&&decide (m.imports.length<=8)&&decide (m.exports.length<=60)&&decide (0<=m.pos)
def LO(m:Modu):List Str:=m.name::m.imports.map (·.name)
def K6(m:Modu):List Str:=kO++m.decls.map (·.name)
def okM(m:Modu):Bool:=vk m&&(m.imports.all nD&&(m.decls.all mE&&(m.exports.all lP&&(decide (LO m).Nodup&&decide (K6 m).Nodup&&decide m.exports.Nodup))))
def cd(m:Modu):Int:=if okM m=true then 0 else 100
def K7(d:Dcl):Bool:=decide (d.shape.names.length<=17592186044416)&&(decide (d.shape.parts.length<=17592186044416)&&(decide (d.term.names.length<=17592186044416)&&(decide (d.term.vars.length<=17592186044416)&&(decide (d.term.shapes.length<=17592186044416)&&decide (d.term.parts.length<=17592186044416)))))
theorem z8{d:Dcl}:K7 d=true↔d.shape.names.length<=17592186044416/\d.shape.parts.length<=17592186044416/\d.term.names.length<=17592186044416/\d.term.vars.length<=17592186044416/\d.term.shapes.length<=17592186044416/\d.term.parts.length<=17592186044416:=by unfold K7;simp only[MR,MV]
def aW(d:Dcl):Bool:=(eI d.term&&bR d.term)&&K7 d
theorem nE{d:Dcl}:aW d=true↔(eI d.term=true/\bR d.term=true)/\K7 d=true:=by unfold aW;simp only[MR]
theorem za{d:Dcl}(h:aW d=true):eI d.term=true/\bR d.term=true:=(nE.1 h).1
theorem HU{d:Dcl}(h:aW d=true):d.shape.names.length<=17592186044416/\d.shape.parts.length<=17592186044416/\d.term.names.length<=17592186044416/\d.term.vars.length<=17592186044416/\d.term.shapes.length<=17592186044416/\d.term.parts.length<=17592186044416:=z8.1 (nE.1 h).2
theorem C6{m:Modu}(h:okM m=false):(100:Int)=cd m:=by unfold cd;rw[h];rfl
theorem zb{m:Modu}(h:okM m=true):(0:Int)=cd m:=by unfold cd;rw[h];rfl
theorem zc{m:Modu}(h:vk m=false):okM m=false:=by unfold okM;rw[h,Nb]
theorem C7{m:Modu}(h:m.imports.all nD=false):okM m=false:=by unfold okM;rw[h,Nb,NM]
theorem C8{m:Modu}(h:m.decls.all mE=false):okM m=false:=by unfold okM;rw[h,Nb,NM,NM]
theorem C9{m:Modu}(h:m.exports.all lP=false):okM m=false:=by unfold okM;rw[h,Nb,NM,NM,NM]
theorem LP{m:Modu}(h1:vk m=true)(h2:m.imports.all nD=true)(h3:m.decls.all mE=true)(h4:m.exports.all lP=true) :
  okM m=(decide (LO m).Nodup&&decide (K6 m).Nodup&&decide m.exports.Nodup):=by unfold okM;rw[h1,h2,h3,h4];rfl
theorem zd{m:Modu}:vk m=true↔ay m.name=true/\m.imports.length<=8/\m.exports.length<=60/\0<=m.pos:=by unfold vk;simp only[MR,MV,and_assoc]
theorem DW{x:Impt}:nD x=true↔ay x.name=true/\dx x.pin=0/\mD x.range=0/\dj x.pin x.range=true/\0<=x.pos:=by unfold nD;simp only[MR,MV,and_assoc]
theorem DX{d:Dcl}:mE d=true↔gX d=true/\0<=d.pos:=by unfold mE;simp only[MR,MV]
theorem wR{s:Str}:lP s=true↔ay s=true∨dh s=true:=by unfold lP;rw[NO]
theorem HV{l:List Bnd}(h:mD l=0):∀b∈l,b.v.pre.length<=24:=by
 unfold mD at h;split at h
 ·exact absurd h (by decide)
 ·split at h
  ·rename_i h2;intro b hb;have:=N6.1 h2 b hb;unfold lE at this;rw[MR,MV,MV]at this;exact sT this.2
  ·exact absurd h (by decide)
theorem ndN{p:Prop}[Decidable p](h:(!decide p)=true):¬p:=by intro e;rw[Xd e]at h;exact absurd h (by decide)
theorem ndP{p:Prop}[Decidable p](h:¬(!decide p)=true):p:=by refine Decidable.not_not.1 fun e=>h ?_;rw[Xf e];rfl
theorem nbN{b:Bool}(h:(!b)=true):¬b=true:=by intro e;rw[e]at h;exact absurd h (by decide)
theorem nbP{b:Bool}(h:¬(!b)=true):b=true:=by cases b with|true=>rfl|false=>exact absurd rfl h
theorem bF{b:Bool}(h:¬b=true):b=false:=by cases b with|true=>exact absurd rfl h|false=>rfl
end Go.Pd
end
section
namespace Go.Pd
open Go Go.AL
structure MdE where
 f:Flt
 l:List Exp
 st:Int
def LQ:MdE:=⟨⟨0,0⟩,[],0⟩
def oB(r:Option MdE):MdE:=match r with|none=>LQ|some e=>e
theorem th(e:MdE):oB (some e)=e:=rfl
abbrev Ahd:=List (Str×List Exp)
def DY(o:Str)(s:Option Scp)(x:Exp):Option Scp:=eC s o x.name x.what
structure ImE where
 f:Flt
 s:Option Scp
def eJ(ah:Ahd):List Impt->Option Scp->ImE
 |[],s=>⟨⟨0,0⟩,s⟩
 |i::r,s=>match bX (K:=Str) ah i.name with
  |none=>⟨⟨282,i.pos⟩,s⟩
  |some l=>eJ ah r (l.foldl (DY i.name) s)
def cK(ev:EvT)(self:Str):List Dcl->Option Scp->List Exp->Int->Option MdE
 |[],_,out,st=>some ⟨⟨0,0⟩,out,st⟩
 |d::r,s,out,st=>
  if d.kind=3 then
   match ev d.term ⟨s,self⟩ st with
   |none=>none
   |some e=>if e.f.err=0 then cK ev self r (eC s [] d.name e.v) (out++[⟨d.name,e.v,d.pos⟩]) e.st else some ⟨e.f,[],e.st⟩
  else cK ev self r s out st
def K8(m:Modu):Bool:=m.exports.all fun n=>decide (n∈m.decls.map (·.name))
def dX(m:Modu)(l:List Exp):List Exp:=l.filter fun x=>decide (x.name∈m.exports)
def mT(l:List Exp):List Exp:=l.mergeSort fun a b=>decide (a.name<=b.name)
def jE(m:Modu)(e:MdE):MdE:=if e.f.err=0 then(if K8 m=true then⟨⟨0,0⟩,mT (dX m e.l),e.st⟩else⟨⟨150,m.pos⟩,[],e.st⟩)else e
def vl(ev:EvT)(m:Modu)(i:ImE)(st:Int):Option MdE:=
 if i.f.err=0 then(cK ev m.name m.decls i.s [] st).map (jE m)else some ⟨i.f,[],st⟩
def iH(ev:EvT)(m:Modu)(ah:Ahd)(st:Int):Option MdE:=
 if cd m=0 then vl ev m (eJ ah m.imports bN) st else some ⟨⟨cd m,0⟩,[],st⟩
def dE(ev:EvT):List Modu->Ahd->List Exp->Int->Option MdE
 |[],_,last,st=>some ⟨⟨0,0⟩,last,st⟩
 |m::r,ah,last,st=>
  match iH ev m ah st with
  |none=>none
  |some e=>if e.f.err=0 then dE ev r (eL (K:=Str) ah m.name e.l) e.l e.st else some ⟨e.f,[],e.st⟩
structure Cls where
 f:Flt
 l:List Cel
def dY(n:Nat):List Exp->List Cel->Option Cls
 |[],out=>some ⟨⟨0,0⟩,out⟩
 |x::r,out=>
  match cb n x.what x.pos with
  |none=>none
  |some s=>if s.f.err=0 then dY n r (out++[⟨x.name,s.v⟩])else some ⟨s.f,out⟩
structure Prg where
 l:List Cel
 st:Int
 f:Flt
def LR:Prg:=⟨[],0,⟨0,0⟩⟩
def jF(r:Option Prg):Prg:=match r with|none=>LR|some p=>p
theorem mz(p:Prg):jF (some p)=p:=rfl
def endC(st:Int)(c:Cls):Prg:=⟨c.l,st,c.f⟩
def tj(n:Nat)(e:MdE):Option Prg:=if e.f.err=0 then(dY n e.l []).map (endC e.st)else some ⟨[],e.st,e.f⟩
def dm(n m:Nat)(l:List Modu)(k:Int):Option Prg:=(dE (ao k n) l [] [] 0).bind (tj m)
def wS(p:Prg):Prg:=if p.f.err=0 then p else⟨[],0,p.f⟩
def dH(n m:Nat)(l:List Modu)(k:Int):Option Prg:=
 if l=[]∨k<0∨2000<k then some ⟨[],0,⟨2,0⟩⟩else(dm n m l k).map wS
variable {k mo st:Int}
def MnsM(k st:Int)(r q:Option MdE):Prop:=∀e,r=some e->st<=e.st/\e.st<=k/\((e.f.err≠292/\q=some e)∨(e.f.err=292/\∀y,q=some y->y.f.err≠0∨k<y.st))
def UpM(mo st:Int)(r:Option MdE):Prop:=∀e,r=some e->st<=e.st/\e.st<=mo
theorem wT{ew:EvT}(hw:kN 0 mo ew ew)(self:Str):∀(l:List Dcl)(s:Option Scp)(out:List Exp)(st:Int),st<=mo->UpM mo st (cK ew self l s out st)
 |[],s,out,st,hs=>fun e he=>by simp only[cK,Xs]at he;subst he;exact⟨NA _,hs⟩
 |d::r,s,out,st,hs=>by
  intro e he;simp only[cK]at he;split at he
  ·cases hx:ew d.term ⟨s,self⟩ st with
   |none=>rw[hx]at he;cases he
   |some x=>
    rw[hx]at he;simp only at he;have g:=(hw.at _ _ _ x hx).2;split at he
    ·have:=wT hw self r _ _ _ g.2 e he;exact⟨by omega,this.2⟩
    ·cases he;exact g
  ·exact wT hw self r _ _ _ hs e he
theorem tm{ev ew:EvT}(h:wP k ev ew)(hw:kN 0 mo ew ew)(self:Str):∀(l:List Dcl)(s:Option Scp)(out:List Exp)(st:Int),st<=k->MnsM k st (cK ev self l s out st) (cK ew self l s out st)
 |[],s,out,st,hs=>fun e he=>by simp only[cK,Xs]at he⊢;subst he;exact⟨NA _,hs,.inl ⟨by show(0:Int)≠292;decide,rfl⟩⟩
 |d::r,s,out,st,hs=>by
  intro e he;simp only[cK]at he⊢;by_cases c:d.kind=3
  ·rw[MT c]at he⊢
   cases hx:ev d.term ⟨s,self⟩ st with
   |none=>rw[hx]at he;cases he
   |some x=>
    rw[hx]at he;simp only at he;obtain⟨h1,h2,⟨h3,h4⟩|⟨h3,h4⟩⟩:=h d.term ⟨s,self⟩ st x hx
    ·rw[h4];simp only;by_cases c2:x.f.err=0
     ·rw[MT c2]at he⊢;obtain⟨g1,g2,g3⟩:=tm h hw self r _ _ _ h2 e he;exact⟨by omega,g2,g3⟩
     ·rw[MS c2]at he⊢;cases he;exact⟨h1,h2,.inl ⟨h3,rfl⟩⟩
    ·rw[MS (by omega)]at he;cases he;refine⟨h1,h2,.inr ⟨h3,fun y hy=>?_⟩⟩
     cases hz:ew d.term ⟨s,self⟩ st with
     |none=>rw[hz]at hy;cases hy
     |some z=>
      rw[hz]at hy;simp only at hy;by_cases c2:z.f.err=0
      ·rw[MT c2]at hy;have g:=wT hw self r _ _ _ (hw.at _ _ _ z hz).2.2 y hy;have:=(h4 z hz).resolve_left (fun n=>n c2);exact .inr (by omega)
      ·rw[MS c2]at hy;cases hy;exact .inl c2
  ·rw[MS c]at he⊢;exact tm h hw self r _ _ _ hs e he
theorem qP(m:Modu)(e:MdE):(jE m e).st=e.st:=by
 unfold jE;split
 ·split<;>rfl
 ·rfl
theorem HW{m:Modu}{e:MdE}(h:e.f.err=292):jE m e=e:=by unfold jE;rw[MS (by omega)]
theorem HX{m:Modu}{e:MdE}(h:e.f.err≠292):(jE m e).f.err≠292:=by
 unfold jE;split
 ·split
  ·show(0:Int)≠292;decide
  ·show(150:Int)≠292;decide
 ·exact h
theorem HY{m:Modu}{e:MdE}(h:e.f.err≠0):(jE m e).f.err≠0:=by unfold jE;rw[MS h];exact h
theorem DZ(ah:Ahd):∀(l:List Impt)(s:Option Scp),(eJ ah l s).f.err≠292
 |[],s=>by show(0:Int)≠292;decide
 |i::r,s=>by
  simp only[eJ];split
  ·show(282:Int)≠292;decide
  ·exact DZ ah r _
theorem Ca(m:Modu):cd m≠292:=by unfold cd;split<;>decide
theorem K9{ev ew:EvT}(h:wP k ev ew)(hw:kN 0 mo ew ew)(m:Modu)(ah:Ahd)(hs:st<=k):MnsM k st (iH ev m ah st) (iH ew m ah st):=by
 unfold iH vl;by_cases c:cd m=0
 ·rw[MT c,MT c];by_cases ci:(eJ ah m.imports bN).f.err=0
  ·rw[MT ci,MT ci];intro e he;obtain⟨x,hx,rfl⟩:=N3.1 he;obtain⟨h1,h2,h3⟩:=tm h hw _ _ _ _ _ hs x hx;rw[qP];refine⟨h1,h2,?_⟩;rcases h3 with⟨h3,h4⟩|⟨h3,h4⟩
   ·exact .inl ⟨HX h3,by rw[h4];rfl⟩
   ·refine .inr ⟨by rw[HW h3];exact h3,fun y hy=>?_⟩;obtain⟨z,hz,rfl⟩:=N3.1 hy;rw[qP];rcases h4 z hz with q|q
    ·exact .inl (HY q)
    ·exact .inr q
  ·rw[MS ci,MS ci];intro e he;cases he;exact⟨NA _,hs,.inl ⟨DZ _ _ _,rfl⟩⟩
 ·rw[MS c,MS c];intro e he;cases he;exact⟨NA _,hs,.inl ⟨Ca m,rfl⟩⟩
end Go.Pd
end
noncomputable section
namespace Go.Pd
open Go Go.AL
def inX(m:Modu)(x:Exp):Bool:=decide (x.name∈m.exports)
def ze(m:Modu)(s:Nat)(xs:List Exp):Nat:=if xs.all (inX m)=true then s else s+1
theorem zf{m:Modu}{xs:List Exp}(h:xs.all (inX m)=true):dX m xs=xs:=List.filter_eq_self.2 fun x hx=>N6.1 h x hx
theorem zg(m:Modu)(xs:List Exp):(dX m xs).length<=xs.length:=List.length_filter_le _ _
theorem vm(m:Modu)(xs:List Exp)(j:Nat)(d:Exp)(h:j<xs.length):dX m (xs.take (j+1))=dX m (xs.take j)++(if inX m (xs.getD j d)=true then[xs.getD j d]else[]):=by
 have e:xs.take (j+1)=xs.take j++[xs.getD j d]:=by rw[List.take_succ,MX,MQ h];rfl
 rw[e];unfold dX;rw[List.filter_append];show _=_++(if decide ((xs.getD j d).name∈m.exports)=true then[xs.getD j d]else[]);rw[List.filter_cons,List.filter_nil]
theorem HZ{α:Type}{ys:List α}{i:Nat}{v:α}(h:i<ys.length):(ys.set i v).take (i+1)=ys.take i++[v]:=by rw[List.take_succ,List.take_set_of_le (N8 _),List.getElem?_set_self h];rfl
theorem Fh{α:Type}{xs ys:List α}{j:Nat}(h:ys.drop j=xs.drop j)(d:α):ys.getD j d=xs.getD j d:=by
 have:(ys.drop j)[0]?=(xs.drop j)[0]?:=by rw[h]
 rw[NQ,NQ,Ov]at this;rw[MX,MX,this]
theorem vn{α:Type}{xs ys:List α}{j:Nat}(h:ys.drop j=xs.drop j):ys.drop (j+1)=xs.drop (j+1):=by
 have:(ys.drop j).drop 1=(xs.drop j).drop 1:=by rw[h]
 rwa [Q8,Q8]at this
theorem I0{α:Type}{ys:List α}{i j:Nat}{v:α}(h:i<j):(ys.set i v).drop j=ys.drop j:=List.drop_set_of_lt h
theorem Cb{ah:Ahd}{n:Str}{l:List Exp}{N:Nat}(h:∀x∈ah,x.2.length<=N)(q:bX (K:=Str) ah n=some l):l.length<=N:=by
 induction ah with
 |nil=>cases q
 |cons a r ih=>
  rw[bX]at q;split at q
  ·cases q;exact h a (Nn ..)
  ·exact ih (fun x hx=>h x (N4 _ hx)) q
theorem Cc{ah:Ahd}{n:Str}{l:List Exp}{N:Nat}(h:∀x∈ah,x.2.length<=N)(q:l.length<=N):∀x∈eL (K:=Str) ah n l,x.2.length<=N:=by
 induction ah with
 |nil=>intro x hx;rw[eL,NB]at hx;subst hx;exact q
 |cons a r ih=>
  intro x hx;rw[eL]at hx;split at hx
  ·rcases N9.1 hx with rfl|hx
   ·exact q
   ·exact h x (N4 _ hx)
  ·rcases N9.1 hx with rfl|hx
   ·exact h _ (Nn ..)
   ·exact ih (fun x hx=>h x (N4 _ hx)) x hx
theorem Ka(v:Thg):Thg.mk v.kind v.n v.pkg v.text v.names v.parts v.fn=v:=by cases v;rfl
theorem kr{ev:EvT}{self:Str}:∀(l:List Dcl)(s:Option Scp)(out:List Exp)(st:Int)(e:MdE),cK ev self l s out st=some e->e.f.err=0->∃zs,e.l=out++zs/\(zs.map (·.name)).Sublist (l.map (·.name))
 |[],s,out,st,e,h,_=>by simp only[cK,Xs]at h;subst h;exact⟨[],(Ow _).symm,.slnil⟩
 |d::r,s,out,st,e,h,he=>by
  simp only[cK]at h;split at h
  ·split at h
   ·cases h
   ·split at h
    ·obtain⟨zs,h1,h2⟩:=kr r _ _ _ e h he;refine⟨[_]++zs,by rw[h1,NF],?_⟩;rw[Pc];exact h2.cons₂ d.name
    ·rename_i q;cases h;exact absurd he q
  ·obtain⟨zs,h1,h2⟩:=kr r _ _ _ e h he;exact⟨zs,h1,h2.cons _⟩
theorem Kb{ev:EvT}{m:Modu}{ah:Ahd}{st:Int}{e:MdE}(h:iH ev m ah st=some e):e.l.length<=m.decls.length:=by
 unfold iH vl at h;split at h
 ·split at h
  ·obtain⟨x,hx,rfl⟩:=N3.1 h;unfold jE;split
   ·rename_i q;split
    ·obtain⟨zs,z1,z2⟩:=kr _ _ _ _ _ hx q;have:=z2.length_le;rw[NT,NT]at this;rw[Oa]at z1;show(mT (dX m x.l)).length<=_;rw[z1,mT,PL];have:=zg m zs;omega
    ·exact N2 _
   ·rename_i q
    have:∀(l:List Dcl)(s:Option Scp)(out:List Exp)(st:Int)(x:MdE),cK ev m.name l s out st=some x->¬x.f.err=0->x.l=[]:=by
     intro l
     induction l with
     |nil=>intro s out st x hx q;simp only[cK,Xs]at hx;subst hx;exact absurd rfl q
     |cons d r ih=>
      intro s out st x hx q;simp only[cK]at hx;split at hx
      ·split at hx
       ·cases hx
       ·split at hx
        ·exact ih _ _ _ _ hx q
        ·cases hx;rfl
      ·exact ih _ _ _ _ hx q
    rw[this _ _ _ _ _ hx q];exact N2 _
  ·cases h;exact N2 _
 ·cases h;exact N2 _
theorem zh{n:Nat}:∀(l:List Exp)(out:List Cel)(c:Cls),dY n l out=some c->c.f.err=0->c.f=⟨0,0⟩
 |[],out,c,h,_=>by simp only[dY,Xs]at h;subst h;rfl
 |x::r,out,c,h,e=>by
  simp only[dY]at h;split at h
  ·cases h
  ·split at h
   ·exact zh r _ c h e
   ·rename_i q;cases h;exact absurd e q
theorem Mp{n m:Nat}{l:List Modu}{k:Int}{p:Prg}(h:dm n m l k=some p)(hf:p.f.err=0):p.f=⟨0,0⟩:=by
 unfold dm at h;obtain⟨e,he,h⟩:=O7.1 h;unfold tj at h;split at h
 ·obtain⟨c,hc,rfl⟩:=N3.1 h;exact zh _ _ _ hc hf
 ·rename_i q;cases h;exact absurd hf q
theorem zi{m:Modu}(h:cd m=0):(m.decls.map (·.name)).Nodup:=by
 have ok:okM m=true:=by
  unfold cd at h;split at h
  ·assumption
  ·cases h
 unfold okM at ok;simp only[MR,MV]at ok;have:=ok.2.2.2.2.1.2;unfold K6 at this;exact(Qd.1 this).2.1
theorem nF{α:Type}(F:α->Bool):∀(l:List α)(k:Nat),(aF F l k=-1/\l.all F=true)∨∃i:Nat,aF F l k=((k+i:Nat):Int)/\i<l.length/\(l.take i).all F=true/\l.all F=false/\∀d,F (l.getD i d)=false
 |[],k=>.inl ⟨rfl,rfl⟩
 |x::r,k=>by
  rw[aF];by_cases h:F x=true
  ·rw[MT h];rcases nF F r (k+1)with⟨h1,h2⟩|⟨i,h1,h2,h3,h4,h5⟩
   ·exact .inl ⟨h1,by rw[Ny,h,h2];rfl⟩
   ·exact .inr ⟨i+1,by rw[h1];congr 1;omega,by simp only[Ni];omega,by rw[NW,Ny,h,h3];rfl,by rw[Ny,h4,NM],fun d=>by simpa using h5 d⟩
  ·rw[MS h];have h:F x=false:=by simpa using h
   exact .inr ⟨0,by simp,by simp,rfl,by rw[Ny,h];rfl,fun d=>by simpa using h⟩
end Go.Pd
namespace Go.AL
open Go.Pd Go.Proofs Go.Shelf Go.Lib Go.Sort Go.Maps
variable [Tabs] {P:Program} {ρ:Ren}
def Cd(F:Exp->Modu->Ans):Pat:=fun args S=>
 match args,S with
 |[a,.ptr 900 0],[(900,.box (.pt .modu (some m)))]=>(match arg (.st .exp) a with|some x=>some (F x m)|_=>none)
 |_,_=>none
theorem Fi{f:Nat}{F:Exp->Modu->Ans}(he:aq P f)(h:∀x m,(∀q,(F x m).ob=some q->q)->an P f [.st .exp x,.ptr 900 0] [(900,.box (.pt .modu (some m)))] (F x m)):ag P f (Cd F):=by
 intro args S A hA ho _;unfold Cd at hA;split at hA
 ·split at hA
  ·rename_i x hx;simp only[Xs]at hA;subst hA;exact⟨he,an.args (.cons (Rd.arg hx) (.cons (Rd.refl _) .nil)) (h _ _ ho)⟩
  ·cases hA
 ·cases hA
def qQ(g:Nat)(F:Nat->List Exp->Modu->Ans):Pat:=fun args S=>
 match args,S with
 |[.glst s n 900,.fn g' [.ptr 901 0]],[(900,.grow (.st .exp) s' xs),(901,.box (.pt .modu (some m)))]=>
  (match Nat.beq g' g with|true=>some ⟨some ((s=s'/\n=xs.length)/\xs.length<=1000000),(F s xs m).pan,(F s xs m).val,(F s xs m).upd⟩|false=>none)
 |_,_=>none
theorem tp{f g:Nat}{F:Nat->List Exp->Modu->Ans}(he:aq P f)(hob:∀s xs m,(F s xs m).ob=some (xs.length<=1000000))(h:∀s xs m,xs.length<=1000000->an P f [.glst s xs.length 900,.fn g [.ptr 901 0]] [(900,.grow (.st .exp) s xs),(901,.box (.pt .modu (some m)))] (F s xs m)):ag P f (qQ g F):=by
 intro args S A hA ho _;unfold qQ at hA;split at hA
 ·rename_i s n g' s' xs m;split at hA
  ·rename_i hg;have e:=Ng hg;subst e;simp only[Xs]at hA;subst hA;obtain⟨⟨rfl,rfl⟩,h3⟩:=ho _ rfl;exact⟨he,h _ _ _ h3⟩
  ·cases hA
 ·cases hA
def tq(gc:Nat):Pat:=fun args S=>
 match args,S with
 |[.glst s n 900,.fn g []],[(900,.grow (.st .exp) s' xs)]=>
  if g=gc then some ⟨some ((s=s'/\n=xs.length)/\(xs.map (·.name)).Nodup/\xs.length<=1000000),none,.tup [],[(900,.grow (.st .exp) s (mT xs))]⟩else none
 |_,_=>none
theorem zj{f gc:Nat}(L:SlLaysF0.n6 P ρ)(hf:ρ.f 6=f)(aE:∀w,(isAgg (ρ.t 24)).run P w=.ok true w)(zE:∀w,(Go.sizeOf (ρ.t 24)).run P w=.ok 9 w)(eg:∀args w,(callFunc gc args).run P w=.ok (.enter gc args) w)
 {cf:Str->Str->Int}(hcf:∀a b:Str,decide (cf a b<0)=ltStr a b)(C:Lx P gc 9 0 cf)(he:aq P f):ag P f (tq gc):=by
 subst hf;intro args S A h hob hkeys;unfold tq at h;split at h
 ·rename_i s n g s' xs;split at h
  ·rename_i e;subst e;cases h;obtain⟨⟨rfl,rfl⟩,h3,h4⟩:=hob _ rfl;exact⟨he,ue (τ:=.st .exp) (q:=0) L aE zE eg (fun x:Exp=>x.name) (fun _=>rfl) cf hcf C s _ xs rfl h3 (by omega) _⟩
  ·cases h
 ·cases h
theorem wU{r:Option Prg}(h:r.isSome=true):r=some (jF r):=by
 cases r with
 |none=>cases h
 |some e=>rfl
theorem I1{r:Option MdE}(h:r.isSome=true):r=some (oB r):=by
 cases r with
 |none=>cases h
 |some e=>rfl
def mdS(st mo:Int)(ah:Ahd):List (Nat×SObj):=[(900,.box (.agg [.int .i64 st,.int .i64 mo])),(901,.map .str (.lst (.st .exp)) ah)]
def mdA(t:Nat)(mo:Int)(ob:Prop)(e:MdE):Ans:=
 ⟨some ob,some (!decide (e.f.err=0),.iface t (.agg [.int .i64 e.f.err,.int .i64 e.f.pos]),[(900,.box (.agg [.int .i64 e.st,.int .i64 mo]))]),.lst (.st .exp) e.l none,[(900,.box (.agg [.int .i64 e.st,.int .i64 mo]))]⟩
def pMd(F:Modu->Ahd->Int->Int->Ans):Pat:=fun args S=>
 match args,S with
 |[.ptr 900 0,a,.map 901],[(900,.box (.agg [.int .i64 st,.int .i64 mo])),(901,.map .str (.lst (.st .exp)) ah)]=>(match arg (.pt .modu) a with|some (some m)=>some (F m ah st mo)|_=>none)
 |_,_=>none
theorem LS{f:Nat}{F:Modu->Ahd->Int->Int->Ans}(he:aq P f)
 (h:∀m ah st mo,Wf (.st .modu) m->(∀q,(F m ah st mo).ob=some q->q)->an P f [.ptr 900 0,.pt .modu (some m),.map 901] (mdS st mo ah) (F m ah st mo)):ag P f (pMd F):=by
 intro args S A hA ho _;unfold pMd at hA;split at hA
 ·split at hA
  ·rename_i x hx;simp only[Xs]at hA;subst hA;exact⟨he,an.args (.cons (Rd.refl _) (.cons (Rd.arg hx) (.cons (Rd.refl _) .nil))) (an.wf fun hw=>h _ _ _ _ (Wf.pt (WfL.two (τ:=.pt .modu) hw)) ho)⟩
  ·cases hA
 ·cases hA
def prS(st mo:Int):List (Nat×SObj):=[(900,.box (.ptr 902 0)),(901,.box .nils),(902,.box (.agg [.int .i64 st,.int .i64 mo]))]
def Kc(t:Nat)(mo:Int)(q:Prop)(p:Prg):Ans:=
 ⟨some q,some (!decide (p.f.err=0),.iface t (.agg [.int .i64 p.f.err,.int .i64 p.f.pos]),[(901,.box (.lst (.st .cell) p.l none)),(902,.box (.agg [.int .i64 p.st,.int .i64 mo]))]),.tup [],
  [(901,.box (.lst (.st .cell) p.l none)),(902,.box (.agg [.int .i64 p.st,.int .i64 mo]))]⟩
def Kd(mo:Int)(q:Prop)(p:Prg):Ans:=⟨some q,none,.st .fault p.f,[(901,.box (.lst (.st .cell) p.l none)),(902,.box (.agg [.int .i64 p.st,.int .i64 mo]))]⟩
theorem zk{τ:Ty}{l:List (den τ)}(h:∃Ω v,V Ω (.cptr (.lst τ l none)) v):Wf (.lst τ) l:=by
 obtain⟨Ω,v,h⟩:=h
 cases h with|cptr _ b off vals h1 h2=>exact⟨Ω,vals 0,h2 0 _ rfl⟩
def zl(F:List Modu->Int->Ans):Pat:=fun args S=>
 match args,S with
 |[.cptr (.lst (.st .modu) l none),.ptr 900 0,.ptr 901 0],[(900,.box (.ptr 902 0)),(901,.box .nils),(902,.box (.agg [.int .i64 0,.int .i64 mo]))]=>some (F l mo)
 |_,_=>none
theorem I2{f:Nat}{F:List Modu->Int->Ans}(he:aq P f)(h:∀l mo,Wf (.lst (.st .modu)) l->(∀q,(F l mo).ob=some q->q)->an P f [.cptr (.lst (.st .modu) l none),.ptr 900 0,.ptr 901 0] (prS 0 mo) (F l mo)):ag P f (zl F):=by
 intro args S A hA ho _;unfold zl at hA;split at hA
 ·simp only[Xs]at hA;subst hA;exact⟨he,an.wf fun hw=>h _ _ (zk hw.cons.1) ho⟩
 ·cases hA
def zm(g:Nat)(F:List Modu->Int->Ans):Pat:=fun args S=>
 match args,S with
 |[.fn g' [.cptr (.lst (.st .modu) l none),.ptr 900 0,.ptr 901 0]],[(900,.box (.ptr 902 0)),(901,.box .nils),(902,.box (.agg [.int .i64 0,.int .i64 mo]))]=>(match Nat.beq g' g with|true=>some (F l mo)|false=>none)
 |_,_=>none
theorem I3{f g:Nat}{F:List Modu->Int->Ans}(he:aq P f)(h:∀l mo,Wf (.lst (.st .modu)) l->(∀q,(F l mo).ob=some q->q)->an P f [.fn g [.cptr (.lst (.st .modu) l none),.ptr 900 0,.ptr 901 0]] (prS 0 mo) (F l mo)):ag P f (zm g F):=by
 intro args S A hA ho _;unfold zm at hA;split at hA
 ·split at hA
  ·rename_i hg;simp only[Xs]at hA;subst hA;have e:=Ng hg;subst e
   exact⟨he,an.wf fun hw=>h _ _ (by
    obtain⟨Ω,v,hv⟩:=hw.cons.1;obtain⟨vs,rfl,h1⟩:=V.fn_inv hv;exact zk (WfL.cons ⟨Ω,vs,h1⟩).1) ho⟩
  ·cases hA
 ·cases hA
end Go.AL
end
noncomputable section
namespace Go.Proofs
open Go.RowKit Go.Shelf Go.AL Go.Sort Go.Pd Go.Lib
set_option maxHeartbeats 4000000
theorem Tryz.isNaN77(x:ByteArray)(w:World):Calls Tryz.prog 77 #[.string x] w fun e w'=>e=.returned (.bool false)/\w'=w:=by
 go_enter Tryz.func77,Tryz.ntmps77
 go_wp2
 go_ret
 exact⟨by simp,rfl⟩
theorem oC(t:TypeId)(a b:ByteArray):binOp .gtr t (.string a) (.string b)=pure (.bool !(Op.bytesLess a.toList b.toList||a.toList ==b.toList)):=by simp[binOp,Op.stringOp]
attribute [local go_sem] oC
theorem iI:∀a b:List UInt8,compareBytes a b=if Op.bytesLess a b=true then -1 else if(!(Op.bytesLess a b||a ==b))=true then 1 else 0
 |[],[]=>by simp[compareBytes,Op.bytesLess]
 |[],_::_=>by simp[compareBytes,Op.bytesLess]
 |_::_,[]=>by simp[compareBytes,Op.bytesLess]
 |a::r,b::s=>by
  simp only[compareBytes,Op.bytesLess];by_cases h1:a<b
  ·simp[h1]
  ·by_cases h2:b<a
   ·have:a≠b:=fun e=>by subst e;exact h1 h2
    simp[h1,h2,this]
   ·have:a=b:=UInt8.le_antisymm (Qq.1 h2) (Qq.1 h1);subst this;simp only[h1,Nt,iI r s];simp
theorem Tryz.cmp38(x y:ByteArray)(w:World):Calls Tryz.prog 38 #[.string x,.string y] w fun e w'=>e=.returned (.int .i64 (compareBytes x.data.toList y.data.toList))/\w'=w:=by
 have e0:=iI x.toList y.toList;rw[Lib.toList_data,Lib.toList_data]at e0
 go_enter Tryz.func38,Tryz.ntmps38
 go_wp2_with (go_at_call 77;refine(Tryz.isNaN77 _ _).mono ?_;rintro e w' ⟨rfl,rfl⟩)
 all_goals (go_ret;refine⟨?_,rfl⟩;simp_all [Lib.toList_data])
theorem Mq(w:World)(A B:Obj):(w.alloc A).alloc B=grow (w.drewN 0) #[A,B]:=by rw[alloc_eq_grow,alloc_eq_grow,grow_grow];rfl
theorem Tryz.cmp37(a b:ByteArray)(x1 x2 x3 x4 x5 x6 x7 x8 y1 y2 y3 y4 y5 y6 y7 y8:Value)(w:World) :
  Calls Tryz.prog 37 #[.agg #[.string a,x1,x2,x3,x4,x5,x6,x7,x8],.agg #[.string b,y1,y2,y3,y4,y5,y6,y7,y8]] w fun e w'=>e=.returned (.int .i64 (compareBytes a.data.toList b.data.toList))/\∃q os',w'=grow (w.drewN q) os':=by
 go_enter Tryz.func37,Tryz.ntmps37
 go_wp2_with (go_at_call 38;refine(Tryz.cmp38 _ _ _).mono ?_;rintro e w' ⟨rfl,rfl⟩)
 go_ret
 exact⟨rfl,0,_,Mq _ _ _⟩
theorem Tryz.cmpX:Lx Tryz.prog 37 9 0 (fun a b=>compareBytes a b):=by
 intro W xs ys a b hx hy h1 h2 ha hb
 match xs,hx with
 |[x0,x1,x2,x3,x4,x5,x6,x7,x8],_=>
  match ys,hy with
  |[y0,y1,y2,y3,y4,y5,y6,y7,y8],_=>
   obtain rfl:x0=.string ⟨a.toArray⟩:=by simpa using ha
   obtain rfl:y0=.string ⟨b.toArray⟩:=by simpa using hb
   exact Tryz.cmp37 ⟨a.toArray⟩ ⟨b.toArray⟩ x1 x2 x3 x4 x5 x6 x7 x8 y1 y2 y3 y4 y5 y6 y7 y8 W
end Go.Proofs
namespace Go.AL.Seat
open Go Go.AL Go.Proofs Go.Shelf Go.Pd Go.RowKit
variable [Tabs]
theorem Fj:ag Tryz.prog 36 (tq 37):=
 zj Tryz.sortf rfl (fun w=>by kernel_rfl) (fun w=>by kernel_rfl) (enters_of Tryz.func37 (by kernel_rfl) rfl) (fun a b=>kE a b) Tryz.cmpX (aq.mk' Tryz.func36 (by kernel_rfl))
end Go.AL.Seat
end
section
namespace Go.Pd
open Go Go.AL
def Fk(ah:Ahd):Prop:=∀x∈ah,∀y∈x.2,OkH 4096 y.what
def mU(l:List Exp):Prop:=∀y∈l,OkH 4096 y.what
def dF:Nat:=8200096
variable {mo st:Int}
theorem LU{ah:Ahd}{n:Str}{l:List Exp}(h:Fk ah)(q:bX (K:=Str) ah n=some l):mU l:=by
 induction ah with
 |nil=>cases q
 |cons a r ih=>
  rw[bX]at q;split at q
  ·cases q;exact h a (Nn ..)
  ·exact ih (fun x hx=>h x (N4 _ hx)) q
theorem LV{ah:Ahd}{n:Str}{l:List Exp}(h:Fk ah)(q:mU l):Fk (eL (K:=Str) ah n l):=by
 induction ah with
 |nil=>intro x hx;rw[eL,NB]at hx;subst hx;exact q
 |cons a r ih=>
  intro x hx;rw[eL]at hx;split at hx
  ·rcases N9.1 hx with rfl|hx
   ·exact q
   ·exact h x (N4 _ hx)
  ·rcases N9.1 hx with rfl|hx
   ·exact h _ (Nn ..)
   ·exact ih (fun x hx=>h x (N4 _ hx)) x hx
theorem zn(o:Str):∀(l:List Exp)(s:Option Scp),mU l->OkS 4096 s->OkS 4096 (l.foldl (DY o) s)
 |[],s,_,h=>h
 |x::r,s,hl,h=>zn o r _ (fun y hy=>hl y (N4 _ hy)) (mu h (hl x (Nn ..)))
theorem I4{ah:Ahd}(h:Fk ah):∀(l:List Impt)(s:Option Scp),OkS 4096 s->OkS 4096 (eJ ah l s).s
 |[],s,hs=>hs
 |i::r,s,hs=>by
  simp only[eJ];split
  ·exact hs
  ·rename_i l q;exact I4 h r _ (zn _ l s (LU h q) hs)
def LW(mo st:Int)(r:Option MdE):Prop:=∃e,r=some e/\st<=e.st/\e.st<=mo/\(e.f.err=0->mU e.l)
theorem tt{n:Nat}(hn:dF<=n)(h2:mo<=2000)(self:Str):∀(l:List Dcl)(s:Option Scp)(out:List Exp)(st:Int),0<=st->st<=mo->(∀d∈l,d.kind=3->OkX 4096 d.term)->OkS 4096 s->mU out->LW mo st (cK (ao mo n) self l s out st)
 |[],s,out,st,_,hs,_,_,ho=>⟨_,rfl,NA _,hs,fun _=>ho⟩
 |d::r,s,out,st,h0,hs,hd,hsc,ho=>by
  have hr:=fun x hx=>hd x (N4 _ hx);simp only[cK];by_cases c:d.kind=3
  ·rw[MT c];have ox:=hd d (Nn ..) c
   obtain⟨e,he,g1,g2,g3⟩:=yY (S:=4096) (mo:=mo) (by decide) (by omega) n d.term ⟨s,self⟩ st h0 hs ox hsc (by
    have:(mo-st).toNat *(4096+2)<=2000 *(4096+2):=Nq _ (by omega);exact NZ (Nat.add_le_add this ox.1) (NZ (by decide) hn))
   rw[he];simp only;by_cases c2:e.f.err=0
   ·rw[MT c2]
    obtain⟨x,hx,k1,k2,k3⟩:=tt hn h2 self r (eC s [] d.name e.v) (out++[⟨d.name,e.v,d.pos⟩]) e.st (by omega) g2 hr (mu hsc (g3 c2)) (fun y hy=>by
     rcases Nv.1 hy with hy|hy
     ·exact ho y hy
     ·rw[NB.1 hy];exact g3 c2)
    exact⟨x,hx,by omega,k2,k3⟩
   ·rw[MS c2];exact⟨_,rfl,g1,g2,fun q=>absurd q c2⟩
  ·rw[MS c];exact tt hn h2 self r s out st h0 hs hr hsc ho
theorem I5{m:Modu}(hc:cd m=0)(hs:∀d∈m.decls,eI d.term=true):∀d∈m.decls,d.kind=3->OkX 4096 d.term:=by
 have ok:okM m=true:=by
  unfold cd at hc;split at hc
  ·assumption
  ·cases hc
 unfold okM at ok;simp only[MR]at ok;intro d hd k3;have h1:=N6.1 ok.2.2.1 d hd;unfold mE gX at h1;rw[MR,MS (by omega),MT k3]at h1;simp only[MR,MV]at h1;have ht:=h1.1.1.2;exact⟨(C2 ht).1,C1 ht,hs d hd⟩
theorem LX{m:Modu}{e:MdE}(h:e.f.err=0->mU e.l):(jE m e).f.err=0->mU (jE m e).l:=by
 intro q;unfold jE at q⊢;split
 ·rename_i c;rw[MT c]at q;split
  ·intro y hy;have hy:y∈mT (dX m e.l):=hy;rw[mT,Qb]at hy;exact h c y (NN.1 hy).1
  ·intro y hy;cases hy
 ·rename_i c;rw[MS c]at q;exact absurd q c
theorem E0{n:Nat}(hn:dF<=n)(h2:mo<=2000){m:Modu}{ah:Ahd}(h0:0<=st)(hs:st<=mo)(hd:∀d∈m.decls,eI d.term=true)(ha:Fk ah):LW mo st (iH (ao mo n) m ah st):=by
 unfold iH vl;by_cases c:cd m=0
 ·rw[MT c];by_cases ci:(eJ ah m.imports bN).f.err=0
  ·rw[MT ci];obtain⟨e,he,g1,g2,g3⟩:=tt hn h2 m.name m.decls (eJ ah m.imports bN).s [] st h0 hs (I5 c hd) (I4 ha _ _ Fb) (fun y hy=>by cases hy);refine⟨jE m e,by rw[he];rfl,by rw[qP];exact g1,by rw[qP];exact g2,LX g3⟩
  ·rw[MS ci];exact⟨_,rfl,NA _,hs,fun q=>absurd q ci⟩
 ·rw[MS c];exact⟨_,rfl,NA _,hs,fun q=>absurd q c⟩
theorem zo{n:Nat}(hn:dF<=n)(h2:mo<=2000):∀(l:List Modu)(ah:Ahd)(last:List Exp)(st:Int),0<=st->st<=mo->(∀m∈l,∀d∈m.decls,eI d.term=true)->Fk ah->mU last->LW mo st (dE (ao mo n) l ah last st)
 |[],ah,last,st,_,hs,_,_,hl=>⟨_,rfl,NA _,hs,fun _=>hl⟩
 |m::r,ah,last,st,h0,hs,hd,ha,hl=>by
  simp only[dE];obtain⟨e,he,g1,g2,g3⟩:=E0 hn h2 h0 hs (hd m (Nn ..)) ha;rw[he];simp only;by_cases c:e.f.err=0
  ·rw[MT c];obtain⟨x,hx,k1,k2,k3⟩:=zo hn h2 r (eL (K:=Str) ah m.name e.l) e.l e.st (by omega) g2 (fun x hx=>hd x (N4 _ hx)) (LV ha (g3 c)) (g3 c);exact⟨x,hx,by omega,k2,k3⟩
  ·rw[MS c];exact⟨_,rfl,g1,g2,fun q=>absurd q c⟩
def kH(l:List Cel):Prop:=∀x∈l,szV x.value<=2000
theorem Fl{m:Nat}{x:Thg}{a:Int}{s:Sw}(h:cb m x a=some s):s.f.err≠292:=by
 unfold cb at h;split at h
 ·cases h
 ·split at h
  ·split at h
   ·split at h
    ·cases h;show(0:Int)≠292;decide
    ·cases h;show ow _≠292;unfold ow;split
     ·decide
     ·split
      ·decide
      ·split<;>decide
   ·cases h
  ·cases h;show(3:Int)≠292;decide
theorem vo:∀(l:List Exp)(out:List Cel),mU l->kH out->∃c,dY 2001 l out=some c/\kH c.l/\c.f.err≠292
 |[],out,_,ho=>⟨_,rfl,ho,by show(0:Int)≠292;decide⟩
 |x::r,out,hl,ho=>by
  simp only[dY];obtain⟨s,hs,hz⟩:=Ff (a:=x.pos) (hl x (Nn ..)) (show 2000<2001 by decide);rw[hs];simp only;by_cases c:s.f.err=0
  ·rw[MT c]
   exact vo r _ (fun y hy=>hl y (N4 _ hy)) (fun y hy=>by
    rcases Nv.1 hy with hy|hy
    ·exact ho y hy
    ·rw[NB.1 hy];exact hz)
  ·rw[MS c];exact⟨_,rfl,ho,Fl hs⟩
theorem I6{e:MdE}(h:e.f.err=0->mU e.l):∃p,tj 2001 e=some p/\kH p.l/\p.st=e.st/\(p.f.err=292↔e.f.err=292):=by
 unfold tj;by_cases c:e.f.err=0
 ·rw[MT c];obtain⟨x,hx,h1,h2⟩:=vo e.l [] (h c) (fun y hy=>by cases hy);rw[hx];exact⟨_,rfl,h1,rfl,⟨fun q=>absurd q h2,fun q=>by omega⟩⟩
 ·rw[MS c];exact⟨_,rfl,(fun y hy=>by cases hy),rfl,Iff.rfl⟩
def wV(l:List Modu):Prop:=∀m∈l,∀d∈m.decls,eI d.term=true
theorem I7{p:Prg}(h:kH p.l):kH (wS p).l:=by
 unfold wS;split
 ·exact h
 ·intro y hy;cases hy
theorem vp{l:List Modu}{k:Int}(hs:wV l)(h0:0<=k)(h1:k<=2000):∃e p,dE (ao k dF) l [] [] 0=some e/\0<=e.st/\e.st<=k/\tj 2001 e=some p/\kH p.l/\p.st=e.st/\(p.f.err=292↔e.f.err=292):=by obtain⟨e,he,g1,g2,g3⟩:=zo (N8 dF) h1 l [] [] 0 (NA _) h0 hs (fun x hx=>by cases hx) (fun x hx=>by cases hx);obtain⟨p,hp,q1,q2,q3⟩:=I6 g3;exact⟨e,p,he,g1,g2,hp,q1,q2,q3⟩
theorem zp{l:List Modu}(hs:wV l)(k:Int):∃p,dH dF 2001 l k=some p/\kH p.l:=by
 unfold dH;by_cases c:l=[]∨k<0∨2000<k
 ·rw[MT c];exact⟨_,rfl,fun y hy=>by cases hy⟩
 ·rw[MS c];obtain⟨e,p,he,_,_,hp,q1,_⟩:=vp hs (k:=k) (by omega) (by omega);unfold dm;rw[he,Pr,hp];exact⟨_,rfl,I7 q1⟩
theorem bes0{mo:Int}(hm:mo<=1000000)(n:Nat):kN 0 mo (ao mo n) (ao mo n):=by
 have q:=tc (d:=0) (mo:=mo) (NA _) (by omega) n n (N8 _)
 rwa [Qr]at q
theorem I8(p:Prg):(wS p).f=p.f:=by unfold wS;split<;>rfl
end Go.Pd
end
noncomputable section
namespace Go.Pd
open Go Go.AL
def lgD:List Dcl->Int->Option Int
 |[],n=>some n
 |d::r,n=>if 600<n+(dI d.term 300+sizeF d.shape 300)then none else lgD r (n+(dI d.term 300+sizeF d.shape 300))
def lgR(l:List Bnd):Bool:=l.all fun b=>decide (b.v.pre.length<=60)
def lgI(x:Impt):Bool:=decide (x.range.length<=30)&&(decide (x.pin.pre.length<=60)&&lgR x.range)
def lgH(m:Modu)(n:Int):Bool:=decide (n+(20+(m.imports.length:Int))<=600)&&(decide (m.imports.length<=20)&&(decide (m.exports.length<=80)&&decide (m.decls.length<=60)))
def lgA(o:Option Int)(m:Modu)(k:Int->Bool):Bool:=match o with|none=>false|some n=>m.imports.all lgI&&k n
def lgM:List Modu->Int->Bool
 |[],_=>true
 |m::r,n=>lgH m n&&lgA (lgD m.decls (n+(20+(m.imports.length:Int)))) m (lgM r)
theorem ku{m:Modu}{n:Int}:lgH m n=true↔n+(20+(m.imports.length:Int))<=600/\m.imports.length<=20/\m.exports.length<=80/\m.decls.length<=60:=by unfold lgH;simp only[MR,MV]
theorem E1{x:Impt}:lgI x=true↔x.range.length<=30/\x.pin.pre.length<=60/\lgR x.range=true:=by unfold lgI;simp only[MR,MV]
theorem I9(b:Bnd)(r:List Bnd):lgR (b::r)=(decide (b.v.pre.length<=60)&&lgR r):=Ny
def szM:List Modu->Nat
 |[]=>0
 |m::r=>max (szDs m.decls) (szM r)
where szDs:List Dcl->Nat
 |[]=>0
 |d::r=>max (max (sz d.shape) (szT d.term)) (szDs r)
theorem E2:∀(l:List Dcl)(d:Dcl),d∈l->sz d.shape<=szM.szDs l/\szT d.term<=szM.szDs l
 |x::r,d,h=>by
  rw[szM.szDs];rcases N9.1 h with rfl|h
  ·exact⟨NZ (PB _ _) (PB _ _),NZ (Pt _ _) (PB _ _)⟩
  ·have:=E2 r d h;exact⟨NZ this.1 (Pt _ _),NZ this.2 (Pt _ _)⟩
theorem Ia:∀(l:List Modu)(m:Modu),m∈l->∀d∈m.decls,sz d.shape<=szM l/\szT d.term<=szM l
 |x::r,m,h,d,hd=>by
  rw[szM];rcases N9.1 h with rfl|h
  ·have:=E2 _ d hd;exact⟨NZ this.1 (PB _ _),NZ this.2 (PB _ _)⟩
  ·have:=Ia r m h d hd;exact⟨NZ this.1 (Pt _ _),NZ this.2 (Pt _ _)⟩
theorem Ce:∀(l:List Modu)(n:Int),lgM l n=true->∀m∈l,m.decls.length<=60
 |x::r,n,h,m,hm=>by
  rw[lgM,MR]at h;rcases N9.1 hm with rfl|hm
  ·have h:=h.1;unfold lgH at h;simp only[MR,MV]at h;exact h.2.2.2
  ·have h:=h.2;unfold lgA at h;split at h
   ·cases h
   ·rw[MR]at h;exact Ce r _ h.2 m hm
theorem zq:∀(l:List Dcl)(n k:Int),lgD l n=some k->n<=k
 |[],n,k,h=>by cases h;exact NA _
 |d::r,n,k,h=>by
  have a:=sizeT_bd d.term 300 (by omega);have b:=sizeF_bd d.shape 300 (by omega);rw[lgD]at h;split at h
  ·cases h
  ·have:=zq r _ k h;omega
theorem Ib:∀(l:List Modu)(n:Int),n<=600->lgM l n=true->n+l.length<=600
 |[],n,h,_=>by simp only[Oi];omega
 |x::r,n,h0,h=>by
  rw[lgM,MR]at h;obtain⟨h1,h2⟩:=h;have h1:=(ku.1 h1).1;unfold lgA at h2;split at h2
  ·cases h2
  ·rename_i k hk;rw[MR]at h2;have m:=zq _ _ _ hk;by_cases c:k<=600
   ·have:=Ib r k c h2.2;simp only[Ni];omega
   ·cases r with|nil=>simp only[Ni,Oi];omega|cons y z=>have q:=h2.2;rw[lgM,MR]at q;have:=(ku.1 q.1).1;omega
theorem pB{l:List Modu}(h:∀m∈l,m.decls.all aW=true):wV l:=fun m hm d hd=>by have:=N6.1 (h m hm) d hd;exact(za this).1
theorem nG(ah:Ahd)(k:Str)(v:List Exp)(n:Str):bX (K:=Str) (eL (K:=Str) ah k v) n=if n=k then some v else bX (K:=Str) ah n:=mg (K:=Str) ah k n v
def Agr(nm:Str)(a b:Ahd):Prop:=∀n,n≠nm->bX (K:=Str) a n=bX (K:=Str) b n
theorem Ke{nm:Str}{a b:Ahd}(h:Agr nm a b)(k:Str)(v:List Exp):Agr nm (eL (K:=Str) a k v) (eL (K:=Str) b k v):=fun n hn=>by rw[nG,nG,h n hn]
theorem E3{nm:Str}{a b:Ahd}(h:Agr nm a b):∀(l:List Impt)(s:Option Scp),(∀i∈l,i.name≠nm)->eJ a l s=eJ b l s
 |[],s,_=>rfl
 |i::r,s,hi=>by
  simp only[eJ];rw[h i.name (hi i (Nn ..))];split
  ·rfl
  ·exact E3 h r _ fun x hx=>hi x (N4 _ hx)
theorem Kf{nm:Str}{a b:Ahd}(h:Agr nm a b)(ev:EvT)(m:Modu)(st:Int)(hi:∀i∈m.imports,i.name≠nm):iH ev m a st=iH ev m b st:=by unfold iH;rw[E3 h _ _ hi]
theorem zr{nm:Str}(ev:EvT):∀(l:List Modu)(a b:Ahd)(u v:List Exp)(st:Int),Agr nm a b->(∀x∈l,∀i∈x.imports,i.name≠nm)->(l=[]->u=v)->dE ev l a u st=dE ev l b v st
 |[],a,b,u,v,st,_,_,e=>by rw[e rfl];rfl
 |m::r,a,b,u,v,st,h,hi,_=>by
  simp only[dE];rw[Kf h ev m st (hi m (Nn ..))];split
  ·rfl
  ·split
   ·exact zr ev r _ _ _ _ _ (Ke h _ _) (fun x hx=>hi x (N4 _ hx)) (fun _=>rfl)
   ·rfl
theorem Kg{l:List Modu}{m:Modu}{k:Int}{r:Prg}(hs:wV [m])(hl:l≠[])(hi:∀x∈l,∀i∈x.imports,i.name≠m.name)(hr:dH dF 2001 [m] 2000=some r)(h0:r.f.err=0)(h1:r.st=0) :
  dH dF 2001 (m::l) k=dH dF 2001 l k:=by
 by_cases c:k<0∨2000<k
 ·unfold dH;rw[MT (.inr c),MT (.inr c)]
 have k0:0<=k:=by omega
 have k1:k<=2000:=by omega
 obtain⟨e,p,he,e0,e1,hp,p1,p2,p3⟩:=vp hs (show(0:Int)<=2000 by decide) (NA _);have hr':r=wS p:=by unfold dH dm at hr;rw[MS (by rintro(c|c|c);exact absurd c (by simp);omega;omega),he,Pr,hp]at hr;exact(Nk hr).symm
 have pf:p.f.err=0:=by rw[hr',I8]at h0;exact h0
 have ps:e.st=0:=by rw[hr',show wS p=p from MT pf,p2]at h1;exact h1
 have ef:e.f.err=0:=by
  unfold tj at hp;split at hp
  ·assumption
  ·cases hp;exact pf
 obtain⟨x,hx,hx0⟩:∃x,iH (ao 2000 dF) m [] 0=some x/\x=e:=by
  simp only[dE]at he;split at he
  ·cases he
  ·rename_i x hx;refine⟨x,hx,?_⟩;split at he
   ·rename_i z;cases he
    have:x.f=⟨0,0⟩:=by
     obtain⟨f,l',s'⟩:=x;unfold iH vl at hx;split at hx
     ·split at hx
      ·obtain⟨w,hw,hx⟩:=N3.1 hx;unfold jE at hx;split at hx
       ·split at hx
        ·cases hx;rfl
        ·cases hx;exact absurd z (by show ¬(150:Int)=0;decide)
       ·rename_i q;rw[hx]at q;exact absurd z q
      ·rename_i q;cases hx;exact absurd z q
     ·rename_i q;cases hx;exact absurd z q
    obtain⟨f,l',s'⟩:=x;cases this;rfl
   ·rename_i z;cases he;exact absurd ef z
 subst hx0;obtain⟨y,hy,y1,y2,_⟩:=E0 (N8 dF) k1 (NA _) k0 (hs m (NB.2 rfl)) (ah:=[]) (fun x hx=>by cases hx)
 have hy':iH (ao k dF) m [] 0=some x:=by
  obtain⟨_,_,⟨_,g⟩|⟨_,g⟩⟩:=K9 (z7 (k:=k) (mo:=2000) k1 (by decide) dF dF (N8 _)) (bes0 (by decide) _) m [] k0 y hy
  ·rw[hx]at g;cases g;exact hy
  ·rcases g x hx with g|g
   ·exact absurd ef g
   ·omega
 unfold dH dm;rw[MS (by rintro(q|q);exact absurd q (by simp);exact c q),MS (by rintro(q|q);exact hl q;exact c q)];congr 1;congr 1;rw[dE,hy'];simp only;rw[MT ef,ps];exact zr (nm:=m.name) _ l _ _ _ _ _ (fun n hn=>by rw[nG,MS hn]) hi (fun q=>absurd q hl)
end Go.Pd
end
section
open Go Go.AL Go.Pd
namespace Go.AL.Seat
theorem Ic(c:Int)  :
  if decide ((97:Int)<=c)=true then True/\decide (c<=(122:Int))=cW c/\True else True/\false=cW c/\True:=by
 unfold cW;simp only[lB];split<;>simp[*]
theorem Ie(c:Int)  :
  if decide ((65:Int)<=c)=true then True/\decide (c<=(90:Int))=df c/\True else True/\false=df c/\True:=by
 unfold df;simp only[lB];split<;>simp[*]
theorem Ig(c:Int)  :
  if decide ((48:Int)<=c)=true then True/\decide (c<=(57:Int))=gQ c/\True else True/\false=gQ c/\True:=by
 unfold gQ;simp only[lB];split<;>simp[*]
theorem Kh(c:Int)  :
  let A:=True/\true=gM c/\True;if cW c=true then A else if df c=true then A else if gQ c=true then A else True/\decide (c=(95:Int))=gM c/\True:=by
 conv=>zeta
 unfold gM;cases cW c<;>cases df c<;>cases gQ c<;>simp
theorem Fm(s:Str)(hs:Wf .str s) :
  let A:=True/\false=cX cW s/\True;let B:=(↑(List.length s):Int);let C:=(0:Int);let D:=s=s/\false=false/\B=B/\True;if decide (s=[])=true then A else if decide ((24:Int)<B)=true then A else(C<=C/\C<B)/\if(!cW (↑(UInt8.toNat (List.getD s (Int.toNat C) (0:UInt8))):Int))=true then A else(∃(x:Nat),(x<=List.length s/\cX cW s=List.all (List.drop x s) fun(c:UInt8)=>gM (bI c))/\C=(↑x:Int)/\D)/\∀(x:Nat),let E:=(↑x:Int);(x<=List.length s/\cX cW s=List.all (List.drop x s) fun(c:UInt8)=>gM (bI c))->if decide (E<B)=true then(C<=E/\E<B)/\if(!gM (↑(UInt8.toNat (List.getD s (Int.toNat E) (0:UInt8))):Int))=true then A else inR IntKind.i64 (E+(1:Int))/\∃(y:Nat),(y<=List.length s/\cX cW s=List.all (List.drop y s) fun(c:UInt8)=>gM (bI c))/\List.length s-y<List.length s-x/\E+(1:Int)=(↑y:Int)/\D else True/\true=cX cW s/\True:=by
 conv=>zeta
 have hlen:=hs.str;have eb:∀b:UInt8,(b.toNat:Int)=bI b:=fun _=>rfl;simp only[lB,Nh,Int.toNat_zero,O9,NP,eb,cX];generalize cW (bI (s.getD 0 0))=f0;by_cases h0:s=[]
 ·simp[h0]
 have hpos:0<s.length:=Oo.2 h0;by_cases h1:s.length<=24
 ·rw[MS h0,MS (by omega)];refine⟨by omega,?_⟩
  cases f0 with
  |false=>simp
  |true=>
   simp only[PQ,O5,Nt,h0,h1,Q1,decide_true,PH,NH];refine⟨⟨0,⟨by omega,rfl⟩,rfl⟩,?_⟩;rintro k ⟨h3,h4⟩;split
   ·have hk:k<s.length:=by omega
    rw[az s k 0 hk,Ny]at h4;generalize gM (bI (s.getD k 0))=r at h4⊢;refine⟨by omega,?_⟩
    cases r with|false=>simpa using h4.symm|true=>simp only[PQ,O5,Nt];exact⟨ba hk hlen,k+1,⟨by omega,by simpa using h4⟩,by omega,by omega⟩
   ·have hk:k=s.length:=by omega
    subst hk;simpa using h4.symm
 ·rw[MS h0,MT (by omega)];simp[h1]
theorem Fo(s:Str)(hs:Wf .str s) :
  let A:=True/\false=cX df s/\True;let B:=(↑(List.length s):Int);let C:=(0:Int);let D:=s=s/\false=false/\B=B/\True;if decide (s=[])=true then A else if decide ((24:Int)<B)=true then A else(C<=C/\C<B)/\if(!df (↑(UInt8.toNat (List.getD s (Int.toNat C) (0:UInt8))):Int))=true then A else(∃(x:Nat),(x<=List.length s/\cX df s=List.all (List.drop x s) fun(c:UInt8)=>gM (bI c))/\C=(↑x:Int)/\D)/\∀(x:Nat),let E:=(↑x:Int);(x<=List.length s/\cX df s=List.all (List.drop x s) fun(c:UInt8)=>gM (bI c))->if decide (E<B)=true then(C<=E/\E<B)/\if(!gM (↑(UInt8.toNat (List.getD s (Int.toNat E) (0:UInt8))):Int))=true then A else inR IntKind.i64 (E+(1:Int))/\∃(y:Nat),(y<=List.length s/\cX df s=List.all (List.drop y s) fun(c:UInt8)=>gM (bI c))/\List.length s-y<List.length s-x/\E+(1:Int)=(↑y:Int)/\D else True/\true=cX df s/\True:=by
 conv=>zeta
 have hlen:=hs.str;have eb:∀b:UInt8,(b.toNat:Int)=bI b:=fun _=>rfl;simp only[lB,Nh,Int.toNat_zero,O9,NP,eb,cX];generalize df (bI (s.getD 0 0))=f0;by_cases h0:s=[]
 ·simp[h0]
 have hpos:0<s.length:=Oo.2 h0;by_cases h1:s.length<=24
 ·rw[MS h0,MS (by omega)];refine⟨by omega,?_⟩
  cases f0 with
  |false=>simp
  |true=>
   simp only[PQ,O5,Nt,h0,h1,Q1,decide_true,PH,NH];refine⟨⟨0,⟨by omega,rfl⟩,rfl⟩,?_⟩;rintro k ⟨h3,h4⟩;split
   ·have hk:k<s.length:=by omega
    rw[az s k 0 hk,Ny]at h4;generalize gM (bI (s.getD k 0))=r at h4⊢;refine⟨by omega,?_⟩
    cases r with|false=>simpa using h4.symm|true=>simp only[PQ,O5,Nt];exact⟨ba hk hlen,k+1,⟨by omega,by simpa using h4⟩,by omega,by omega⟩
   ·have hk:k=s.length:=by omega
    subst hk;simpa using h4.symm
 ·rw[MS h0,MT (by omega)];simp[h1]
theorem Ki(s:Str)  :
  let A:=101;let B:=True/\true=yt s/\True;if decide (s=([109,111,100,117,108,A]:Str))=true then B else if decide (s=([105,109,112,111,114,116]:Str))=true then B else if decide (s=([112,105,110]:Str))=true then B else if decide (s=([114,97,110,103,A]:Str))=true then B else if decide (s=([116,121,112,A]:Str))=true then B else if decide (s=([111,112,97,113,117,A]:Str))=true then B else if decide (s=([108,A,116]:Str))=true then B else if decide (s=([105,110]:Str))=true then B else if decide (s=([A,120,112,111,114,116]:Str))=true then B else if decide (s=([102,117,110]:Str))=true then B else if decide (s=([105,102]:Str))=true then B else if decide (s=([116,104,A,110]:Str))=true then B else if decide (s=([A,108,115,A]:Str))=true then B else if decide (s=([99,97,115,A]:Str))=true then B else if decide (s=([111,102]:Str))=true then B else if decide (s=([97,115]:Str))=true then B else if decide (s=([110,A,119]:Str))=true then B else if decide (s=([114,97,119]:Str))=true then B else if decide (s=([116,114,117,A]:Str))=true then B else if decide (s=([102,97,108,115,A]:Str))=true then B else True/\false=yt s/\True:=by
 conv=>zeta
 refine aa (fun h=>?_) (fun h0=>?_)
 ·rw[Xo h];exact Xr
 refine aa (fun h=>?_) (fun h1=>?_)
 ·rw[Xo h];exact Xr
 refine aa (fun h=>?_) (fun h2=>?_)
 ·rw[Xo h];exact Xr
 refine aa (fun h=>?_) (fun h3=>?_)
 ·rw[Xo h];exact Xr
 refine aa (fun h=>?_) (fun h4=>?_)
 ·rw[Xo h];exact Xr
 refine aa (fun h=>?_) (fun h5=>?_)
 ·rw[Xo h];exact Xr
 refine aa (fun h=>?_) (fun h6=>?_)
 ·rw[Xo h];exact Xr
 refine aa (fun h=>?_) (fun h7=>?_)
 ·rw[Xo h];exact Xr
 refine aa (fun h=>?_) (fun h8=>?_)
 ·rw[Xo h];exact Xr
 refine aa (fun h=>?_) (fun h9=>?_)
 ·rw[Xo h];exact Xr
 refine aa (fun h=>?_) (fun h10=>?_)
 ·rw[Xo h];exact Xr
 refine aa (fun h=>?_) (fun h11=>?_)
 ·rw[Xo h];exact Xr
 refine aa (fun h=>?_) (fun h12=>?_)
 ·rw[Xo h];exact Xr
 refine aa (fun h=>?_) (fun h13=>?_)
 ·rw[Xo h];exact Xr
 refine aa (fun h=>?_) (fun h14=>?_)
 ·rw[Xo h];exact Xr
 refine aa (fun h=>?_) (fun h15=>?_)
 ·rw[Xo h];exact Xr
 refine aa (fun h=>?_) (fun h16=>?_)
 ·rw[Xo h];exact Xr
 refine aa (fun h=>?_) (fun h17=>?_)
 ·rw[Xo h];exact Xr
 refine aa (fun h=>?_) (fun h18=>?_)
 ·rw[Xo h];exact Xr
 refine aa (fun h=>?_) (fun h19=>?_)
 ·rw[Xo h];exact Xr
 refine⟨trivial,?_,trivial⟩;symm;refine Xf fun hm=>?_;unfold KZ at hm;rcases N9.1 hm with e|hm
 ·exact h0 (Xd e)
 rcases N9.1 hm with e|hm
 ·exact h1 (Xd e)
 rcases N9.1 hm with e|hm
 ·exact h2 (Xd e)
 rcases N9.1 hm with e|hm
 ·exact h3 (Xd e)
 rcases N9.1 hm with e|hm
 ·exact h4 (Xd e)
 rcases N9.1 hm with e|hm
 ·exact h5 (Xd e)
 rcases N9.1 hm with e|hm
 ·exact h6 (Xd e)
 rcases N9.1 hm with e|hm
 ·exact h7 (Xd e)
 rcases N9.1 hm with e|hm
 ·exact h8 (Xd e)
 rcases N9.1 hm with e|hm
 ·exact h9 (Xd e)
 rcases N9.1 hm with e|hm
 ·exact h10 (Xd e)
 rcases N9.1 hm with e|hm
 ·exact h11 (Xd e)
 rcases N9.1 hm with e|hm
 ·exact h12 (Xd e)
 rcases N9.1 hm with e|hm
 ·exact h13 (Xd e)
 rcases N9.1 hm with e|hm
 ·exact h14 (Xd e)
 rcases N9.1 hm with e|hm
 ·exact h15 (Xd e)
 rcases N9.1 hm with e|hm
 ·exact h16 (Xd e)
 rcases N9.1 hm with e|hm
 ·exact h17 (Xd e)
 rcases N9.1 hm with e|hm
 ·exact h18 (Xd e)
 rcases N9.1 hm with e|hm
 ·exact h19 (Xd e)
 exact absurd hm OG
theorem Kj(s:Str)  :
  if cX cW s=true then True/\(!yt s)=ay s/\True else True/\false=ay s/\True:=by
 unfold ay;cases cX cW s<;>simp
theorem Ih(s:Str)  :
  True/\cX df s=dh s/\True:=by
 simp[dh]
theorem Fp(a:List Str)(v:Str)(ha:Wf (.lst .str) a) :
  let A:=(0:Int);let B:=(↑(List.length a):Int);let C:=a=a/\v=v/\B=B/\True;(∃(x:Nat),(x<=List.length a/\bj a v A=bj (List.drop x a) v (↑x:Int))/\A=(↑x:Int)/\C)/\∀(x:Nat),let D:=(↑x:Int);x<=List.length a/\bj a v A=bj (List.drop x a) v D->if decide (D<B)=true then(A<=D/\D<B)/\if decide (v=List.getD a (Int.toNat D) (dfl Ty.str))=true then True/\D=bj a v A/\True else inR IntKind.i64 (D+(1:Int))/\∃(y:Nat),(y<=List.length a/\bj a v A=bj (List.drop y a) v (↑y:Int))/\List.length a-y<List.length a-x/\D+(1:Int)=(↑y:Int)/\C else True/\(-1:Int)=bj a v A/\True:=by
 conv=>zeta
 have la:=ha.len;simp only[Nh,PI,O9,NP];refine⟨⟨0,⟨by omega,by simp⟩,by simp⟩,?_⟩;rintro k ⟨h1,h3⟩;apply aa<;>intro h
 ·replace h:=Xo h;have hk:k<a.length:=by omega
  rw[az a k (dfl .str) hk]at h3;refine⟨by omega,?_⟩;by_cases e:a.getD k (dfl .str)=v
  ·rw[MT (by simpa using e.symm),h3,bj,MT e]
  ·rw[MS (by simpa using fun h=>e h.symm)];exact⟨ba hk la,k+1,⟨by omega,by rw[h3,bj,MS e];rfl⟩,by omega,by omega⟩
 ·replace h:¬((k:Int)<(a.length:Int)):=fun e=>h (Xd e);have e:k=a.length:=by omega
  subst e;rw[h3];simp[bj]
theorem wW(a:List Str)(v:Str)  :
  True/\decide ((0:Int)<=bj a v (0:Int))=decide (v∈a)/\True:=by
 simp only[PI,O9,NP];rw[Bool.eq_iff_iff];simp[vb a v 0 (by omega)]
theorem Ii(s:Str)  :
  let A:=True/\true=ny s/\True;if decide (s=([73,110,116]:Str))=true then A else if decide (s=([66,111,111,108]:Str))=true then A else if decide (s=([84,101,120,116]:Str))=true then A else True/\decide (s=([65,110,121]:Str))=ny s/\True:=by
 conv=>zeta
 simp only[PI,O9,NP,ny];by_cases a:s=[73,110,116]<;>by_cases b:s=[66,111,111,108]<;>by_cases c:s=[84,101,120,116]<;>by_cases d:s=[65,110,121]<;>simp[a,b,c,d]
theorem Fq(a:List Str)  :
  True/\a=a/\True:=by
 trivial
theorem Ij(s:Shape)(hs:Wf (.st .shape) s)(ho:s.parts.length *16<=140737488355328) :
  let A:=(↑(List.length s.names):Int);let B:=True/\false=eY s/\True;let C:=List.length s.names=List.length s.parts;let D:=s=s/\false=false/\s.names=s.names/\A=A/\s=s/\True;let E:=(List.mergeSort s.names fun(x y:Str)=>decide (x<=y));if(!decide (A=(↑(List.length s.parts):Int)))=true then B else(∃(x:Nat),(x<=List.length s.names/\C/\eY s=(List.all (List.drop x s.names) ay&&decide (List.Nodup s.names)))/\(0:Int)=(↑x:Int)/\D)/\∀(x:Nat),let F:=(↑x:Int);x<=List.length s.names/\C/\eY s=(List.all (List.drop x s.names) ay&&decide (List.Nodup s.names))->if decide (F<A)=true then((0:Int)<=F/\F<A)/\if(!ay (List.getD s.names (Int.toNat F) (dfl Ty.str)))=true then B else inR IntKind.i64 (F+(1:Int))/\∃(y:Nat),(y<=List.length s.names/\C/\eY s=(List.all (List.drop y s.names) ay&&decide (List.Nodup s.names)))/\List.length s.names-y<List.length s.names-x/\F+(1:Int)=(↑y:Int)/\D else List.length s.names*(16:Nat)<=(140737488355328:Nat)/\List.length E=List.length E/\True/\decide ((↑(List.length (Lib.compact E)):Int)=A)=eY s/\True:=by
 conv=>zeta
 have ln:=hs.names.len;simp only[Nh,PI,O9,NP];apply aa<;>intro h
 ·have:s.names.length≠s.parts.length:=by simp at h;omega
  simp[eY,this]
 have hl:s.names.length=s.parts.length:=by simp at h;omega
 refine⟨⟨0,⟨by omega,hl,by simp[eY,hl]⟩,rfl⟩,?_⟩;rintro k ⟨h1,_,h3⟩;apply aa<;>intro h
 ·replace h:=Xo h;have hk:k<s.names.length:=by omega
  rw[az s.names k (dfl .str) hk]at h3;refine⟨by omega,?_⟩;simp only[Ny]at h3;cases e:ay (s.names.getD k (dfl .str))
  ·rw[e]at h3;rw[h3];simp
  ·simp only[e,NH]at h3;exact⟨ba hk ln,k+1,⟨by omega,hl,h3⟩,by omega,by omega⟩
 ·replace h:¬((k:Int)<(s.names.length:Int)):=fun e=>h (Xd e);have e:k=s.names.length:=by omega
  subst e;have hc:=fM s.names;unfold eR at hc;refine⟨by omega,?_⟩;rw[h3,Nj];simp only[Q3,NH];rw[O1,<-hc];omega
theorem Kk(s:Shape)(hs:Wf (.st .shape) s)(ho:s.parts.length *16<=140737488355328) :
  let A:=(0:Int);let B:=True;let C:=(↑(List.length s.parts):Int);let D:=B/\false=cJ s/\B;let E:=if decide ((↑(List.length s.names):Int)=A)=true then B/\decide (C=A)=cJ s/\B else D;let F:=if decide (s.name=[])=true then E else D;let G:=if decide (s.name=[])=true then List.length s.parts*(16:Nat)<=(140737488355328:Nat)/\B/\eY s=cJ s/\B else D;let H:=if ay s.pkg=true then E else D;let I:=if decide (s.kind=(9:Int))=true then if dh s.name=true then if decide (s.pkg=[])=true then if(!ny s.name)=true then E else H else H else D else if decide (s.kind=(10:Int))=true then if dh s.name=true then H else D else D;if decide (s.pkg=[])=true then if decide (s.kind=(1:Int))=true then F else if decide (s.kind=(2:Int))=true then F else if decide (s.kind=(3:Int))=true then F else if decide (s.kind=(4:Int))=true then F else if decide (s.kind=(5:Int))=true then if decide (s.name=[])=true then if decide ((↑(List.length s.names):Int)=A)=true then B/\decide (C=(1:Int))=cJ s/\B else D else D else if decide (s.kind=(6:Int))=true then G else if decide (s.kind=(7:Int))=true then G else if decide (s.kind=(8:Int))=true then if decide (s.name=[])=true then if decide ((↑(List.length s.names):Int)=A)=true then B/\decide (A<C)=cJ s/\B else D else D else I else if decide (s.kind=(1:Int))=true then D else if decide (s.kind=(2:Int))=true then D else if decide (s.kind=(3:Int))=true then D else if decide (s.kind=(4:Int))=true then D else if decide (s.kind=(5:Int))=true then D else if decide (s.kind=(6:Int))=true then D else if decide (s.kind=(7:Int))=true then D else if decide (s.kind=(8:Int))=true then D else I:=by
 conv=>zeta
 have n0:((s.names.length:Int)=0)↔s.names=[]:=by rw[<-OJ];omega
 have p0:((s.parts.length:Int)=0)↔s.parts=[]:=by rw[<-OJ];omega
 have p1:((s.parts.length:Int)=1)↔s.parts.length=1:=by omega
 have p2:(0<(s.parts.length:Int))↔¬s.parts=[]:=by rw[<-OJ];omega
 simp only[n0,p0,p1,p2,MV,O9,NP,ho];have hf:cJ s=cJ s:=rfl;conv at hf=>rhs;unfold cJ
 revert hf;generalize cJ s=F;generalize eY s=A;generalize dh s.name=B;generalize ay s.pkg=C;generalize ny s.name=D;generalize s.kind=K;intro hf
 repeat' (apply aa<;>intro _)
 all_goals (subst hf;simp_all)
theorem Cf(n:Nat)(s:Shape)(hs:Wf (.st .shape) s)(hn:sz s<=n+1)(hb:n<=1000000) :
  let A:=True/\false=allS cJ s/\True;let B:=(↑(List.length s.parts):Int);let C:=s=s/\false=false/\s.parts=s.parts/\B=B/\s=s/\True;let D:=dfl (Ty.st SN.shape);List.length s.parts*(16:Nat)<=(140737488355328:Nat)/\if(!cJ s)=true then A else(∃(x:Nat),(x<=List.length s.parts/\allS cJ s=allL cJ (List.drop x s.parts))/\(0:Int)=(↑x:Int)/\C)/\∀(x:Nat),let E:=(↑x:Int);let F:=List.getD s.parts (Int.toNat E) D;x<=List.length s.parts/\allS cJ s=allL cJ (List.drop x s.parts)->if decide (E<B)=true then((0:Int)<=E/\E<B)/\sz F<=n/\if(!allS cJ F)=true then A else inR IntKind.i64 (E+(1:Int))/\∃(y:Nat),(y<=List.length s.parts/\allS cJ s=allL cJ (List.drop y s.parts))/\List.length s.parts-y<List.length s.parts-x/\E+(1:Int)=(↑y:Int)/\C else True/\true=allS cJ s/\True:=by
 conv=>zeta
 have ln:=hs.parts.len;have hz:=uZ s;have hl:=DI s.parts;simp only[Nh,PI,O9,NP];refine⟨by omega,aa (fun h=>?_) (fun h=>?_)⟩
 ·rw[qK];simp at h;simp[h]
 refine⟨⟨0,⟨by omega,by rw[qK];simp at h;simp[h]⟩,rfl⟩,?_⟩;rintro k ⟨h1,h3⟩;apply aa<;>intro h
 ·replace h:=Xo h;have hk:k<s.parts.length:=by omega
  have hm:=ph (bG s.parts k (dfl (.st .shape)) hk);rw[az s.parts k (dfl (.st .shape)) hk]at h3;simp only[allL]at h3;refine⟨by omega,by omega,?_⟩;cases e:allS cJ (s.parts.getD k (dfl (.st .shape)))
  ·rw[e]at h3;rw[h3];simp
  ·simp only[e,NH]at h3;exact⟨ba hk ln,k+1,⟨by omega,h3⟩,by omega,by omega⟩
 ·replace h:¬((k:Int)<(s.parts.length:Int)):=fun e=>h (Xd e);have e:k=s.parts.length:=by omega
  subst e;rw[h3,Nj];rfl
theorem Kl(c:Int)(hc:0<=c/\c<=400) :
  let A:=(1:Int);let B:=c+A=c+A/\True;inR IntKind.i64 (c+A)/\if decide ((400:Int)<c+A)=true then decide ((400:Int)<c+A)=true/\B else decide ((400:Int)<c+A)=false/\B:=by
 conv=>zeta
 refine⟨aD (by omega) (by omega),aa (fun h=>?_) (fun h=>?_)⟩
 ·exact⟨h,rfl,trivial⟩
 ·exact⟨by simpa using h,rfl,trivial⟩
theorem Km(n:Nat)(s:Shape)(l c:Int)(hs:Wf (.st .shape) s)(hn:sz s<=n+1)(hc:0<=c/\c<=400/\1<=l/\l<=c+1) :
  let A:=(0:Int);let B:=(400:Int);let C:=(1:Int);let D:=(↑(sz s):Int);let E:=decide (B<c+D)=true;let F:=(401:Int);let G:=l+C;let H:=s.parts=s.parts;let I:=(↑(List.length s.parts):Int);let J:=s=s/\True;let K:=dfl (Ty.st SN.shape);(A<=c/\c<=B)/\if decide (B<c+C)=true then E/\c+C=F/\True else(∃(x:Nat×Int),let L:=(↑(szL (List.take x.1 s.parts)):Int);(x.1<=List.length s.parts/\c+C+L<=B/\deepL (List.drop x.1 s.parts) G x.2=deepS s l)/\l=x.2/\A=(↑x.1:Int)/\s=s/\l=l/\A=A/\H/\I=I/\c+C=c+C+L/\J)/\∀(x:Nat×Int),let L:=(↑(szL (List.take x.1 s.parts)):Int);let M:=c+C+L<=B;let N:=(↑x.1:Int);let O:=List.getD s.parts (Int.toNat N) K;let P:=(↑(sz O):Int);x.1<=List.length s.parts/\M/\deepL (List.drop x.1 s.parts) G x.2=deepS s l->if decide (N<I)=true then(A<=N/\N<I)/\inR IntKind.i64 G/\(sz O<=n/\A<=c+C+L/\M/\C<=l+C/\l+C<=c+C+L+C)/\if decide (B<c+C+L+P)=true then E/\F=F/\True else inR IntKind.i64 (N+C)/\∃(y:Nat×Int),let Q:=(↑(szL (List.take y.1 s.parts)):Int);(y.1<=List.length s.parts/\c+C+Q<=B/\deepL (List.drop y.1 s.parts) G y.2=deepS s l)/\List.length s.parts-y.1<List.length s.parts-x.1/\max x.2 (deepS O G)=y.2/\N+C=(↑y.1:Int)/\s=s/\l=l/\A=A/\H/\I=I/\c+C+L+P=c+C+Q/\J else decide (B<c+D)=false/\x.2=deepS s l/\c+C+L=c+D/\True:=by
 conv=>zeta
 have ln:=hs.parts.len;have hz:=uZ s;refine⟨⟨hc.1,hc.2.1⟩,aa (fun h=>?_) (fun h=>?_)⟩
 ·replace h:=Xo h;have:=nz s;exact⟨Xd (by omega),by omega,trivial⟩
 replace h:¬(400:Int)<c+1:=fun e=>h (Xd e);have hd0:deepL s.parts (l+1) l=deepS s l:=by cases s;rfl
 refine⟨⟨(0,l),⟨N2 _,by simp[szL];omega,by simpa using hd0⟩,rfl,rfl,rfl,rfl,rfl,rfl,rfl,by simp[szL],rfl,trivial⟩,?_⟩;rintro⟨k,d⟩ ⟨h1,h2,h3⟩;simp only[Nh]at h1 h2 h3⊢;have hc0:(0:Int)<=(szL (s.parts.take k):Int):=by omega
 apply aa<;>intro hk
 ·replace hk:=Xo hk;have hk:k<s.parts.length:=by omega
  have hs1:=mM s.parts k (dfl (.st .shape)) hk;have hm:=ph (bG s.parts k (dfl (.st .shape)) hk);rw[az s.parts k (dfl (.st .shape)) hk]at h3;simp only[deepL]at h3;have ht:=yu s.parts (k+1);refine⟨by omega,aD (by omega) (by omega),⟨by omega,by omega,h2,by omega,by omega⟩,aa (fun h=>?_) (fun h=>?_)⟩
  ·replace h:=Xo h;exact⟨Xd (by omega),by trivial,by trivial⟩
  ·replace h:=fun e=>h (Xd e);replace h:¬(400:Int)<c+1+(szL (s.parts.take k):Int)+(sz (s.parts.getD k (dfl (.st .shape))):Int):=h;exact⟨ba hk ln,(k+1,_),⟨by omega,by simp only;omega,h3⟩,by simp only;omega,rfl,by simp only;omega,by trivial,by trivial,by trivial,by trivial,by trivial,by simp only;omega,by trivial,by trivial⟩
 ·replace hk:¬((k:Int)<(s.parts.length:Int)):=fun e=>hk (Xd e);have e:k=s.parts.length:=by omega
  subst e;rw[Ob]at h2⊢;rw[Nj]at h3;exact⟨Xf (by omega),h3,by omega,trivial⟩
theorem Ik(s:Shape)(hs:Wf (.st .shape) s) :
  let A:=(0:Int);let B:=(1:Int);let C:=(↑(sz s):Int);let D:=if sz s<=(400:Nat)then C else(401:Int);let E:=if sz s<=(400:Nat)then deepS s B else A;(sz s<=sz s/\A<=A/\A<=(400:Int)/\B<=B/\B<=A+B)/\if decide ((400:Int)<A+C)=true then((401:Int)=D)/\(A=E)/\false=decide (sz s<=(400:Nat))/\True else(A+C=D)/\(deepS s B=E)/\true=decide (sz s<=(400:Nat))/\True:=by
 conv=>zeta
 refine⟨by simp,aa (fun h=>?_) (fun h=>?_)⟩
 ·replace h:=Xo h;have h':¬sz s<=400:=by omega
  rw[MS h',MS h'];exact⟨rfl,rfl,by simp[h'],trivial⟩
 ·replace h:¬(400:Int)<0+(sz s:Int):=fun e=>h (Xd e);have h':sz s<=400:=by omega
  rw[MT h',MT h'];exact⟨by omega,by trivial,by simp[h'],trivial⟩
theorem Il(s:Shape)  :
  let A:=True;if(!decide (sz s<=(400:Nat)))=true then A/\(3:Int)=di s/\A else if decide ((40:Int)<if sz s<=(400:Nat)then deepS s (1:Int)else(0:Int))=true then A/\(91:Int)=di s/\A else sz s<=(400:Nat)/\if(!allS cJ s)=true then A/\(70:Int)=di s/\A else A/\(0:Int)=di s/\A:=by
 conv=>zeta
 unfold di;by_cases h1:sz s<=400
 ·rw[MS (by simp[h1]),MT h1,MS (show ¬400<sz s by omega)];by_cases h2:(40:Int)<deepS s 1
  ·rw[MT (by simp[h2]),MT h2];exact Xr
  ·rw[MS (by simp[h2]),MS h2];refine⟨h1,?_⟩;cases allS cJ s<;>simp
 ·rw[MT (by simp[h1]),MT (show 400<sz s by omega)];exact Xr
theorem Kn(n:Nat)(s:Shape)(m:Int)(hs:Wf (.st .shape) s)(ho:sz s<=n+1/\0<=m/\m<=1000000) :
  let A:=(1:Int);let B:=(0:Int);let C:=s=s/\m=m/\B=B/\s=s/\True;let D:=(↑(List.length s.parts):Int);let E:=dfl (Ty.st SN.shape);(∃(x:Nat×Int),(x.1<=List.length s.parts/\A<=x.2/\x.2<=m+A/\sizeL (List.drop x.1 s.parts) x.2 m=sizeF s m)/\A=x.2/\B=(↑x.1:Int)/\C)/\∀(x:Nat×Int),let F:=(↑x.1:Int);let G:=m-x.2;let H:=List.getD s.parts (Int.toNat F) E;let I:=True/\x.2=sizeF s m/\True;x.1<=List.length s.parts/\A<=x.2/\x.2<=m+A/\sizeL (List.drop x.1 s.parts) x.2 m=sizeF s m->if decide (F<D)=true then if decide (x.2<=m)=true then(B<=F/\F<D)/\inR IntKind.i64 G/\(sz H<=n/\B<=m-x.2/\m-x.2<=(1000000:Int))/\inR IntKind.i64 (x.2+sizeF H G)/\inR IntKind.i64 (F+A)/\∃(y:Nat×Int),(y.1<=List.length s.parts/\A<=y.2/\y.2<=m+A/\sizeL (List.drop y.1 s.parts) y.2 m=sizeF s m)/\List.length s.parts-y.1<List.length s.parts-x.1/\x.2+sizeF H G=y.2/\F+A=(↑y.1:Int)/\C else I else I:=by
 conv=>zeta
 have ln:=hs.parts.len;have hz:=uZ s;obtain⟨ho1,ho2,ho3⟩:=ho;have h0:sizeL s.parts 1 m=sizeF s m:=by cases s;rfl
 simp only[Nh,PI,O9,NP];refine⟨⟨(0,1),⟨N2 _,by omega,by omega,h0⟩,rfl,rfl⟩,?_⟩;rintro⟨k,c⟩ ⟨h1,h2,h3,h4⟩;simp only at h1 h2 h3 h4⊢;apply aa<;>intro hk
 ·replace hk:=Xo hk;have hk:k<s.parts.length:=by omega
  have hm:=ph (bG s.parts k (dfl (.st .shape)) hk);rw[az s.parts k (dfl (.st .shape)) hk]at h4;simp only[sizeL]at h4;apply aa<;>intro hc
  ·replace hc:=Xo hc;rw[MT hc]at h4;have hb:=sizeF_bd (s.parts.getD k (dfl (.st .shape))) (m-c) (by omega);exact⟨by omega,aD (by omega) (by omega),by omega,aD (by omega) (by omega),ba hk ln,(k+1,_),⟨by omega,by simp only;omega,by simp only;omega,h4⟩,by simp only;omega,rfl,rfl⟩
  ·rw[MS (fun e=>hc (Xd e))]at h4;exact h4
 ·replace hk:¬((k:Int)<(s.parts.length:Int)):=fun e=>hk (Xd e);have e:k=s.parts.length:=by omega
  subst e;rw[Nj]at h4;exact h4
end Go.AL.Seat
end
