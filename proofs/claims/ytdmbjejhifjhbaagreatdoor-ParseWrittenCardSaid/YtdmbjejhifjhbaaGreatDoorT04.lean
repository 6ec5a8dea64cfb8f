/- Plain facts. No condition. -/
import Derived.Test.YtdmbjejhifjhbaaGreatDoorT03
import Derived.Deep.DeepWitnessRowRef
import Derived.Lib.AppendIntMem
import Derived.Lib.DecodeN
import Derived.Lib.FrozenHead2
import Derived.Lib.LaidIn
import Derived.Lib.LaidU8T
import Derived.LoopIn
import Derived.LoopNIn
import Derived.OwnWalkIn
import Derived.PinnedBridge
import Derived.ProofKit
import Derived.RangeFuncBox
import Derived.RangeFuncLeaves
import Derived.Shelf.SlIter.Sorted
import Derived.Shelf.Slices.Clone
import Derived.Shelf.Slices.CompactS
import Derived.Shelf.Small.Strs
import Derived.Shelf.Sort.Plain
import Derived.Shelf.Strconv.Atoi
import Derived.Shelf.Strconv.Itoa3
import Derived.Shelf.Strings.Cut
import Derived.Shelf.Strings.OnBuilder
import Derived.Shelf.Strings.Search3
import Derived.Shelf.Strings.SlTrimAscii
import Derived.Shelf.Strings.Split
import Derived.Shelf.Unicode.DecodeAny
import Derived.Shelf.Unicode.ValidAny
import Derived.Shelf.Vars
import Derived.TacticsInMore
import Derived.Test.YtdmbjejhifjhbaaGreatDoorCards
import Derived.Test.YtdmbjejhifjhbaaGreatDoorProg
import Derived.Test.YtdmbjejhifjhbaaGreatDoorTie
import Derived.WalkKit
set_option linter.all false
set_option maxRecDepth 100000
section
namespace Go.Pd
open Go.AL
def bAt(s:Str)(a:Int):Int:=if a<(s.length:Int)then bI (s.getD a.toNat 0)else 0
def aq(p:Int->Bool)(s:Str)(a:Int):Nat:=((s.drop a.toNat).takeWhile fun b=>p (bI b)).length
def cut(s:Str)(a b:Int):Str:=(s.take b.toNat).drop a.toNat
def cu(r:Str)(k:Nat):Bool:=decide (k<r.length)&&decide ((r.getD k 0).toNat/64=2)
def gz(r:Str)(k:Nat):Nat:=(r.getD k 0).toNat%64
def rv(c:Nat):Bool:=decide (c<1114112)&&!(decide (55296<=c)&&decide (c<57344))
def dD:Str->Nat
 |[]=>0
 |b::r=>
  if b.toNat<128 then 1
  else if b.toNat/32=6/\cu r 0=true then(if 128<=b.toNat%32 *64+gz r 0 then 2 else 0)
  else if b.toNat/16=14/\cu r 0=true/\cu r 1=true then
   (if 2048<=b.toNat%16 *4096+gz r 0 *64+gz r 1/\rv (b.toNat%16 *4096+gz r 0 *64+gz r 1)=true then 3 else 0)
  else if b.toNat/8=30/\cu r 0=true/\cu r 1=true/\cu r 2=true then
   (if 65536<=b.toNat%8 *262144+gz r 0 *4096+gz r 1 *64+gz r 2/\rv (b.toNat%8 *262144+gz r 0 *4096+gz r 1 *64+gz r 2)=true then 4 else 0)
  else 0
def gn:Nat->Str->Nat->Option Nat
 |0,_,_=>none
 |f+1,x,k=>if x=[]then none else if dD x=0 then some k else gn f (x.drop (dD x)) (k+dD x)
def bO(x:Str):Option Nat:=gn x.length x 0
structure SC where
 pos:Int
 out:List Tokn
 err:Int
 fat:Int
def cG(c:Int):Bool:=!decide (c=10)
def ck(c:Int):Bool:=bL c||bM c||cv c||decide (c=46)||decide (c=45)
def mj:Str:=[40,41,123,125,91,93,60,62,61,94,42,44,58,46,47,64,124]
def lF(s:Str):Bool:=decide (s=[60,61])||decide (s=[62,61])||decide (s=[45,62])||(decide (s.length=1)&&decide (s.getD 0 0∈mj))
def ff(s:Str):Bool:=(s.all fun c=>cv (bI c))&&decide (s.length<=15)&&(decide (s=[48])||!decide (bI (s.getD 0 0)=48))
def splitB(c:UInt8):Str->List Str
 |[]=>[[]]
 |b::r=>if b=c then[]::splitB c r else match splitB c r with|[]=>[[b]]|p::ps=>(b::p)::ps
def dn(s:Str):Bool:=!decide (s=[])&&s.all fun c=>cv (bI c)
def jC(c:Int):Bool:=cv c||bL c||bM c||decide (c=45)
def gA(s:Str):Bool:=!decide (s=[])&&!(dn s&&decide (bI (s.getD 0 0)=48)&&!decide (s=[48]))&&s.all fun c=>jC (bI c)
def Hx(s:Str):Int:=s.foldl (fun n c=>10 *n+((c.toNat:Int)-48)) 0
def fW(s:Str):Bool:=dn s&&decide (s.length<=6)&&!(decide (1<s.length)&&decide (bI (s.getD 0 0)=48))
def ek(v:Vers):Int:=
 if v.major<0∨999999<v.major∨v.minor<0∨999999<v.minor∨v.patch<0∨999999<v.patch then 40
 else if 24<v.pre.length then 40 else if v.pre=[]then 0 else if(splitB 46 v.pre).all gA=true then 0 else 40
def aU(s:Str):Str:=s.takeWhile fun b=>!decide (b=45)
def eI(s:Str):Str:=s.drop ((aU s).length+1)
def jm(s:Str):Bool:=decide ((aU s).length<s.length)
def noV:Vers:=⟨0,0,0,[]⟩
def fM(s:Str):Vers:=⟨Hx ((splitB 46 (aU s)).getD 0 []),Hx ((splitB 46 (aU s)).getD 1 []),Hx ((splitB 46 (aU s)).getD 2 []),eI s⟩
def er(s:Str):Vers×Int:=
 if ¬(splitB 46 (aU s)).length=3∨jm s=true/\eI s=[]then(noV,40)
 else if(splitB 46 (aU s)).all fW=true then(if ek (fM s)=0 then(fM s,0)else(noV,40))
 else(noV,40)
def gq(e a:Int)(c:SC):Bool×SC:=(false,⟨c.pos,c.out,e,a⟩)
def fE(k:Int)(t:Str)(fr:Int)(c:SC):Bool×SC:=(true,⟨c.pos,c.out++[⟨k,t,fr⟩],c.err,c.fat⟩)
def iA(s:Str)(a b:Int)(c:SC):Bool×SC:=match bO (cut s a b)with|none=>(true,c)|some k=>gq 30 (a+k) c
def bV(c:SC)(a:Int):SC:=⟨a,c.out,c.err,c.fat⟩
def aH(c:Int):Bool:=decide (32<=c)&&!decide (c=34)&&!decide (c=92)
def jn(b:Int):Option Int:=if b=110 then some 10 else if b=116 then some 9 else if b=34 then some 34 else if b=92 then some 92 else none
def bW(s:Str)(fr:Int):Nat->Str->SC->Str×Bool×SC
 |0,_,c=>([],false,c)
 |n+1,acc,c=>
  if bAt s c.pos<32 then([],gq 60 fr c)
  else if bAt s c.pos=34 then(acc,true,bV c (c.pos+1))
  else if bAt s c.pos=92 then
   match jn (bAt s (c.pos+1))with
   |none=>([],gq 60 fr c)
   |some x=>bW s fr n (acc++[UInt8.ofNat x.toNat]) (bV c (c.pos+2))
  else
   match bO (cut s c.pos (c.pos+aq aH s c.pos))with
   |some k=>([],gq 30 (c.pos+k) (bV c (c.pos+aq aH s c.pos)))
   |none=>bW s fr n (acc++cut s c.pos (c.pos+aq aH s c.pos)) (bV c (c.pos+aq aH s c.pos))
def cn(s:Str)(c:SC):Str×Bool×SC:=bW s c.pos (s.length+2) [] (bV c (c.pos+1))
def sG(t:Str)(e:Int)(c:SC):Bool×SC:=
 if lE t=true then fE 5 t c.pos (bV c e)
 else if aG t=true then fE 1 t c.pos (bV c e)
 else if cW t=true then fE 2 t c.pos (bV c e)
 else gq 60 c.pos (bV c e)
def wT(t:Str)(e:Int)(c:SC):Bool×SC:=
 if ff t=true then fE 3 t c.pos (bV c e)
 else if(er t).2=0 then fE 7 t c.pos (bV c e)
 else gq 60 c.pos (bV c e)
def wU(fr:Int)(q:Str×Bool×SC):Bool×SC:=if q.2.1=true then fE 4 q.1 fr q.2.2 else(false,q.2.2)
def ez(s:Str)(p k:Int):Bool:=decide (p+k<=(s.length:Int))&&lF (cut s p (p+k))
def sH(s:Str)(c:SC):Bool×SC:=
 if ez s c.pos 2=true then fE 6 (cut s c.pos (c.pos+2)) c.pos (bV c (c.pos+2))
 else if ez s c.pos 1=true then fE 6 (cut s c.pos (c.pos+1)) c.pos (bV c (c.pos+1))
 else gq 60 c.pos c
def aP(s:Str)(c:SC):Bool×SC:=
 if bL (bAt s c.pos)=true∨bM (bAt s c.pos)=true then sG (cut s c.pos (c.pos+aq bB s c.pos)) (c.pos+aq bB s c.pos) c
 else if cv (bAt s c.pos)=true then wT (cut s c.pos (c.pos+aq ck s c.pos)) (c.pos+aq ck s c.pos) c
 else if bAt s c.pos=34 then wU c.pos (cn s c)
 else sH s c
def gO(b:Int):Bool:=decide (b=32)||decide (b=10)||decide (b=9)||decide (b=13)
def dE(s:Str):Nat->SC->List Tokn×Flt
 |0,_=>([],⟨0,0⟩)
 |n+1,c=>
  if c.pos=(s.length:Int)then(c.out++[⟨0,[],(s.length:Int)⟩],⟨0,0⟩)
  else if gO (bAt s c.pos)=true then dE s n (bV c (c.pos+1))
  else if bAt s c.pos=45/\bAt s (c.pos+1)=45 then
   match bO (cut s c.pos (c.pos+aq cG s c.pos))with
   |some k=>([],⟨30,c.pos+k⟩)
   |none=>dE s n (bV c (c.pos+aq cG s c.pos))
  else if(aP s c).1=true then dE s n (aP s c).2 else([],⟨(aP s c).2.err,(aP s c).2.fat⟩)
def aN(s:Str):List Tokn×Flt:=if 4096<s.length then([],⟨3,4096⟩)else dE s (s.length+2) ⟨0,[],0,0⟩
end Go.Pd
end
section
namespace Go.AL
open Go.Pd
variable [Tabs]
section
variable {P:Program} {f:Nat}
def pLn(F:Str->Int->Nat->Int->Ans):Pat
 |[.ptr 900 0,.int .i64 k],[(900,.box (.agg [.str s,.int .i64 p])),(901,.tail (.st .token) n)]=>some (F s p n k)
 |_,_=>none
theorem LC{F:Str->Int->Nat->Int->Ans}(he:aw P f)(h:∀s p n k,(∀q,(F s p n k).ob=some q->q)->ax P f [.ptr 900 0,.int .i64 k] [(900,.box (.agg [.str s,.int .i64 p])),(901,.tail (.st .token) n)] (F s p n k)):ae P f (pLn F):=by
 intro args S A hA ho _;unfold pLn at hA;split at hA
 ·simp only[Xs]at hA;subst hA;exact⟨he,h _ _ _ _ ho⟩
 ·cases hA
def pLf(g:Nat)(F:Str->Int->Nat->Ans):Pat
 |[.ptr 900 0,.fn g' []],[(900,.box (.agg [.str s,.int .i64 p])),(901,.tail (.st .token) n)]=>(match Nat.beq g' g with|true=>some (F s p n)|false=>none)
 |_,_=>none
theorem wV{g:Nat}{F:Str->Int->Nat->Ans}(he:aw P f)(h:∀s p n,(∀q,(F s p n).ob=some q->q)->ax P f [.ptr 900 0,.fn g []] [(900,.box (.agg [.str s,.int .i64 p])),(901,.tail (.st .token) n)] (F s p n)):ae P f (pLf g F):=by
 intro args S A hA ho _;unfold pLf at hA;split at hA
 ·split at hA
  ·rename_i hb;have e:=Nx hb;subst e;simp only[Xs]at hA;subst hA;exact⟨he,h _ _ _ ho⟩
  ·cases hA
 ·cases hA
def pC0(F:Str->SC->Nat->Ans):Pat
 |[.ptr 900 0],[(900,.box (.agg [.str s,.int .i64 p,.lst (.st .token) out (some 901),.int .i64 e,.int .i64 g])),(901,.tail (.st .token) n)]=>some (F s ⟨p,out,e,g⟩ n)
 |_,_=>none
theorem Hy{F:Str->SC->Nat->Ans}(he:aw P f)(h:∀s c n,(∀q,(F s c n).ob=some q->q)->ax P f [.ptr 900 0] [(900,.box (.agg [.str s,.int .i64 c.pos,.lst (.st .token) c.out (some 901),.int .i64 c.err,.int .i64 c.fat])),(901,.tail (.st .token) n)] (F s c n)):ae P f (pC0 F):=by
 intro args S A hA ho _;unfold pC0 at hA;split at hA
 ·simp only[Xs]at hA;subst hA;exact⟨he,h _ _ _ ho⟩
 ·cases hA
def pC2(F:Str->SC->Nat->Int->Int->Ans):Pat
 |[.ptr 900 0,.int .i64 a,.int .i64 b],[(900,.box (.agg [.str s,.int .i64 p,.lst (.st .token) out (some 901),.int .i64 e,.int .i64 g])),(901,.tail (.st .token) n)]=>some (F s ⟨p,out,e,g⟩ n a b)
 |_,_=>none
theorem Hz{F:Str->SC->Nat->Int->Int->Ans}(he:aw P f)(h:∀s c n a b,(∀q,(F s c n a b).ob=some q->q)->ax P f [.ptr 900 0,.int .i64 a,.int .i64 b] [(900,.box (.agg [.str s,.int .i64 c.pos,.lst (.st .token) c.out (some 901),.int .i64 c.err,.int .i64 c.fat])),(901,.tail (.st .token) n)] (F s c n a b)):ae P f (pC2 F):=by
 intro args S A hA ho _;unfold pC2 at hA;split at hA
 ·simp only[Xs]at hA;subst hA;exact⟨he,h _ _ _ _ _ ho⟩
 ·cases hA
def pCt(F:Str->SC->Nat->Int->Str->Int->Ans):Pat
 |[.int .i64 k,.str t,.ptr 900 0,.ptr 901 0],[(900,.box (.ptr 902 0)),(901,.box (.int .i64 fr)),(902,.box (.agg [.str s,.int .i64 p,.lst (.st .token) out (some 903),.int .i64 e,.int .i64 g])),(903,.tail (.st .token) n)]=>some (F s ⟨p,out,e,g⟩ n k t fr)
 |_,_=>none
theorem LD{F:Str->SC->Nat->Int->Str->Int->Ans}(he:aw P f)(h:∀s c n k t fr,(∀q,(F s c n k t fr).ob=some q->q)->ax P f [.int .i64 k,.str t,.ptr 900 0,.ptr 901 0] [(900,.box (.ptr 902 0)),(901,.box (.int .i64 fr)),(902,.box (.agg [.str s,.int .i64 c.pos,.lst (.st .token) c.out (some 903),.int .i64 c.err,.int .i64 c.fat])),(903,.tail (.st .token) n)] (F s c n k t fr)):ae P f (pCt F):=by
 intro args S A hA ho _;unfold pCt at hA;split at hA
 ·simp only[Xs]at hA;subst hA;exact⟨he,h _ _ _ _ _ _ ho⟩
 ·cases hA
end
end Go.AL
end
section
namespace Go.Pd
open Go.AL
theorem Mo(b:UInt8):0<=bI b/\bI b<=255:=by have:=b.toNat_lt;unfold bI;omega
theorem cN{pr:Int->Bool}{s:Str}{a:Int}(h0:0<=a)(h1:a<(s.length:Int))(h:pr (bI (s.getD a.toNat 0))=true):aq pr s a=1+aq pr s (a+1):=by
 unfold aq;have hk:a.toNat<s.length:=by omega
 rw[b8 s a.toNat 0 hk,OM,h];have e:(a+1).toNat=a.toNat+1:=by omega
 simp only[NS,N7,e];omega
theorem jM{pr:Int->Bool}{s:Str}{a:Int}(h0:0<=a)(h1:a<(s.length:Int))(h:pr (bI (s.getD a.toNat 0))=false):aq pr s a=0:=by
 unfold aq;have hk:a.toNat<s.length:=by omega
 rw[b8 s a.toNat 0 hk,OM,h];simp
theorem l9{pr:Int->Bool}{s:Str}{a:Int}(h1:(s.length:Int)<=a):aq pr s a=0:=by unfold aq;rw[OI (by omega)];simp
theorem dp{pr:Int->Bool}{s:Str}{a:Int}(h0:0<=a)(h1:a<=(s.length:Int)):a+(aq pr s a:Int)<=(s.length:Int):=by
 have h:aq pr s a<=(s.drop a.toNat).length:=by unfold aq;exact(List.takeWhile_sublist _).length_le
 rw[NU]at h;omega
theorem jo{s:Str}{a:Int}(h:a<(s.length:Int)):bAt s a=bI (s.getD a.toNat 0):=by unfold bAt;rw[N6 h]
theorem oW{s:Str}{a:Int}(h:(s.length:Int)<=a):bAt s a=0:=by unfold bAt;rw[N3 (by omega)]
theorem oX{s:Str}{a b:Int}(h0:0<=a)(h1:a<=b)(h2:b<=(s.length:Int)):((cut s a b).length:Int)=b-a:=by unfold cut;rw[NU,OP];omega
end Go.Pd
namespace Go.Pd
open Go.AL
def qX:Str:=[48,49,50,51,52,53,54,55,56,57]
def jN(b:UInt8):Bool:=cv (bI b)
def nD(s:Str):Str:=(s.reverse.dropWhile jN).reverse.dropWhile jN
def pZ(s:Str)(c:Int):Int:=bu (fun b=>!decide (bI b=c)) s 0
def iG(s:Str):Nat×Nat:=if s=[]then(65533,0)else Lib.decodeN s.length (s.getD 0 0).toNat (s.getD 1 0).toNat (s.getD 2 0).toNat (s.getD 3 0).toNat
theorem nE{p:UInt8->Bool}:∀{l:Str},l.dropWhile p=[]↔l.all p=true
 |[]=>by simp
 |b::r=>by
  rw[List.dropWhile_cons];split
  ·rename_i h;rw[nE,NI,h,O3]
  ·rename_i h;simp[h]
theorem nF{p:UInt8->Bool}:∀(l:Str),(l.dropWhile p).all p=l.all p
 |[]=>rfl
 |b::r=>by
  rw[List.dropWhile_cons];split
  ·rename_i h;rw[nF r,NI,h,O3]
  ·rfl
theorem vh(s:Str):nD s=[]↔s.all jN=true:=by unfold nD;rw[nE,List.all_reverse,nF,List.all_reverse]
theorem HA(s:Str):(nD s).length<=s.length:=by unfold nD;have h1:=(List.dropWhile_sublist (p:=jN) (l:=(s.reverse.dropWhile jN).reverse)).length_le;have h2:=(List.dropWhile_sublist (p:=jN) (l:=s.reverse)).length_le;rw[List.length_reverse]at h1 h2;omega
theorem BC(s:Str)(k:Nat):(s.drop k).getD 0 0=s.getD k 0:=by simp[Nb]
def Ey(n b0 b1 b2 b3:Nat):Nat:=
 if b0<128 then 1
 else if b0/32=6/\(1<n/\b1/64=2)then(if b0%32 *64+b1%64≥128 then 2 else 0)
 else if b0/16=14/\(1<n/\b1/64=2)/\(2<n/\b2/64=2)then
  (if b0%16 *4096+b1%64 *64+b2%64≥2048/\(b0%16 *4096+b1%64 *64+b2%64<55296∨(57344<=b0%16 *4096+b1%64 *64+b2%64/\b0%16 *4096+b1%64 *64+b2%64<=1114111))then 3 else 0)
 else if b0/8=30/\(1<n/\b1/64=2)/\(2<n/\b2/64=2)/\(3<n/\b3/64=2)then
  (if b0%8 *262144+b1%64 *4096+b2%64 *64+b3%64≥65536/\(b0%8 *262144+b1%64 *4096+b2%64 *64+b3%64<55296∨(57344<=b0%8 *262144+b1%64 *4096+b2%64 *64+b3%64/\b0%8 *262144+b1%64 *4096+b2%64 *64+b3%64<=1114111))then 4 else 0)
 else 0
theorem yK(n b0 b1 b2 b3:Nat)(h1:b1<256)(h2:b2<256)(h3:b3<256)(h0:b0<256)(hn:1<=n) :
  ((Lib.decodeN n b0 b1 b2 b3).1=65533/\(Lib.decodeN n b0 b1 b2 b3).2=1↔Ey n b0 b1 b2 b3=0)/\(Ey n b0 b1 b2 b3≠0->(Lib.decodeN n b0 b1 b2 b3).2=Ey n b0 b1 b2 b3)/\
  (Lib.decodeN n b0 b1 b2 b3).1<=1114111/\1<=(Lib.decodeN n b0 b1 b2 b3).2/\(Lib.decodeN n b0 b1 b2 b3).2<=n:=by
 unfold Lib.decodeN Ey;by_cases c1:b0<128
 ·simp only[N6 c1];refine⟨⟨fun e=>?_,fun e=>?_⟩,fun e=>?_,?_,?_,?_⟩<;>first|omega|exact⟨rfl,rfl⟩|exact Xr|exact(e rfl).elim|exact e.elim|exact(e trivial).elim|simp only at *
 simp only[N3 c1];by_cases c2:b0/32=6/\(1<n/\b1/64=2)
 ·simp only[N6 c2];by_cases d:b0%32 *64+b1%64≥128
  ·simp only[N6 d];refine⟨⟨fun e=>?_,fun e=>?_⟩,fun e=>?_,?_,?_,?_⟩<;>first|omega|exact⟨rfl,rfl⟩|exact Xr|exact(e rfl).elim|exact e.elim|exact(e trivial).elim|simp only at *
  ·simp only[N3 d];refine⟨⟨fun e=>?_,fun e=>?_⟩,fun e=>?_,?_,?_,?_⟩<;>first|omega|exact⟨rfl,rfl⟩|exact Xr|exact(e rfl).elim|exact e.elim|exact(e trivial).elim|simp only at *
 simp only[N3 c2];by_cases c3:b0/16=14/\(1<n/\b1/64=2)/\(2<n/\b2/64=2)
 ·simp only[N6 c3];by_cases d:b0%16 *4096+b1%64 *64+b2%64≥2048/\(b0%16 *4096+b1%64 *64+b2%64<55296∨(57344<=b0%16 *4096+b1%64 *64+b2%64/\b0%16 *4096+b1%64 *64+b2%64<=1114111))
  ·simp only[N6 d];refine⟨⟨fun e=>?_,fun e=>?_⟩,fun e=>?_,?_,?_,?_⟩<;>first|omega|exact⟨rfl,rfl⟩|exact Xr|exact(e rfl).elim|exact e.elim|exact(e trivial).elim|simp only at *
  ·simp only[N3 d];refine⟨⟨fun e=>?_,fun e=>?_⟩,fun e=>?_,?_,?_,?_⟩<;>first|omega|exact⟨rfl,rfl⟩|exact Xr|exact(e rfl).elim|exact e.elim|exact(e trivial).elim|simp only at *
 simp only[N3 c3];by_cases c4:b0/8=30/\(1<n/\b1/64=2)/\(2<n/\b2/64=2)/\(3<n/\b3/64=2)
 ·simp only[N6 c4];by_cases d:b0%8 *262144+b1%64 *4096+b2%64 *64+b3%64≥65536/\(b0%8 *262144+b1%64 *4096+b2%64 *64+b3%64<55296∨(57344<=b0%8 *262144+b1%64 *4096+b2%64 *64+b3%64/\b0%8 *262144+b1%64 *4096+b2%64 *64+b3%64<=1114111))
  ·simp only[N6 d];refine⟨⟨fun e=>?_,fun e=>?_⟩,fun e=>?_,?_,?_,?_⟩<;>first|omega|exact⟨rfl,rfl⟩|exact Xr|exact(e rfl).elim|exact e.elim|exact(e trivial).elim|simp only at *
  ·simp only[N3 d];refine⟨⟨fun e=>?_,fun e=>?_⟩,fun e=>?_,?_,?_,?_⟩<;>first|omega|exact⟨rfl,rfl⟩|exact Xr|exact(e rfl).elim|exact e.elim|exact(e trivial).elim|simp only at *
 simp only[N3 c4];refine⟨⟨fun e=>?_,fun e=>?_⟩,fun e=>?_,?_,?_,?_⟩<;>first|omega|exact⟨rfl,rfl⟩|exact Xr|exact(e rfl).elim|exact e.elim|exact(e trivial).elim|simp only at *
theorem yL(c:Nat):rv c=true↔(c<55296∨(57344<=c/\c<=1114111)):=by unfold rv;simp only[N4,N8,Np,Pp,Ns];omega
theorem Ez(r:Str)(k:Nat):cu r k=true↔(k+1<r.length+1/\(r.getD k 0).toNat/64=2):=by unfold cu;simp only[N4,N8];omega
theorem LF(b:UInt8)(r:Str):dD (b::r)=Ey (r.length+1) b.toNat (r.getD 0 0).toNat (r.getD 1 0).toNat (r.getD 2 0).toNat:=by unfold dD Ey gz;simp only[Ez,yL]
theorem kB{s:Str}(h:s≠[]):((iG s).1=65533/\(iG s).2=1↔dD s=0)/\(dD s≠0->(iG s).2=dD s)/\(iG s).1<=1114111/\1<=(iG s).2/\(iG s).2<=s.length:=by
 cases s with
 |nil=>exact absurd rfl h
 |cons b r=>
  have e:iG (b::r)=Lib.decodeN (r.length+1) b.toNat (r.getD 0 0).toNat (r.getD 1 0).toNat (r.getD 2 0).toNat:=by unfold iG;rw[N3 h];rfl
  rw[e,LF,N7];exact yK _ _ _ _ _ (r.getD 0 0).toNat_lt (r.getD 1 0).toNat_lt (r.getD 2 0).toNat_lt b.toNat_lt (by omega)
theorem nV:∀(f g:Nat)(x:Str)(k:Nat),x.length<=f->x.length<=g->gn f x k=gn g x k
 |0,0,_,_,_,_=>rfl
 |0,g+1,x,k,h,_=>by have e:x=[]:=Ni (by omega);subst e;simp[gn]
 |f+1,0,x,k,_,h=>by have e:x=[]:=Ni (by omega);subst e;simp[gn]
 |f+1,g+1,x,k,h1,h2=>by
  simp only[gn];split
  ·rfl
  ·rename_i hx;split
   ·rfl
   ·rename_i hn;have hl:(x.drop (dD x)).length<x.length:=by rw[NU];have:=O2.2 hx;omega
    exact nV f g _ _ (by omega) (by omega)
theorem qJ:∀(f:Nat)(x:Str)(k j:Nat),gn f x (k+j)=(gn f x k).map (·+j)
 |0,_,_,_=>rfl
 |f+1,x,k,j=>by
  simp only[gn];split
  ·rfl
  ·split
   ·rfl
   ·rw[show k+j+dD x=k+dD x+j by omega];exact qJ f _ _ j
def jq(s:Str)(a:Nat):Option Nat:=gn s.length (s.drop a) a
theorem EA{s:Str}{a:Nat}(h:s.length<=a):jq s a=none:=by unfold jq;rw[OI h];cases s.length<;>simp[gn]
theorem EB{s:Str}{a:Nat}(h:a<s.length)(hb:dD (s.drop a)=0):jq s a=some a:=by
 unfold jq;obtain⟨n,hn⟩:∃n,s.length=n+1:=⟨s.length-1,by omega⟩;have hx:s.drop a≠[]:=by intro e;have:=OH List.length e;simp at this;omega
 rw[hn,gn,N3 hx,N6 hb]
theorem sI{s:Str}{a:Nat}(h:a<s.length)(hb:dD (s.drop a)≠0):jq s a=jq s (a+dD (s.drop a)):=by
 unfold jq;obtain⟨n,hn⟩:∃n,s.length=n+1:=⟨s.length-1,by omega⟩;have hx:s.drop a≠[]:=by intro e;have:=OH List.length e;simp at this;omega
 rw[hn,gn,N3 hx,N3 hb,Pr];refine nV _ _ _ _ ?_ ?_<;>(rw[NU];omega)
end Go.Pd
namespace Go.Pd
open Go.AL
def wW(s:Str):Flt:=match bO s with|none=>⟨0,0⟩|some k=>⟨30,k⟩
def oY(s:Str)(k:Nat):List Int:=[if 0<k then(fM s).major else 0,if 1<k then(fM s).minor else 0,if 2<k then(fM s).patch else 0]
end Go.Pd
namespace Go.Pd
open Go.AL
theorem sJ(c:Int):jC c=true↔(48<=c/\c<=57)∨(97<=c/\c<=122)∨(65<=c/\c<=90)∨c=45:=by unfold jC cv bL bM;simp only[NW,N4,N8];omega
theorem kC{s:Str}(h:s≠[])(hz:(dn s&&decide (bI (s.getD 0 0)=48)&&!decide (s=[48]))=false):gA s=s.all fun c=>jC (bI c):=by unfold gA;rw[hz,Xf h];simp
end Go.Pd
namespace Go.Pd
open Go.AL
theorem jW(c:UInt8):∀s:Str,(splitB c s).length<=s.length+1
 |[]=>by simp[splitB]
 |b::r=>by
  have ih:=jW c r;unfold splitB;split
  ·simp only[N7];omega
  ·split
   ·simp
   ·rename_i e;rw[e]at ih;simp only[N7]at ih⊢;omega
theorem gW{α:Type}{p:α->Bool}{l:List α}{k:Nat}(d:α)(hk:k<l.length)(h:(l.take k).all p=true)(hp:p (l.getD k d)=true):(l.take (k+1)).all p=true:=by rw[kx l k d hk,OW,h,NI,hp];rfl
theorem sK{α:Type}{p:α->Bool}{l:List α}{k:Nat}(h:l.length<=k):(l.take k).all p=l.all p:=by rw[OJ h]
theorem oZ{α:Type}{p:α->Bool}{l:List α}{k:Nat}(d:α)(hk:k<l.length)(hp:p (l.getD k d)=false):l.all p=false:=by rw[Og];intro e;have:=Ng.1 e _ (bT l k d hk);rw[this]at hp;cases hp
def qY(n:Int):Bool:=decide (0<=n)&&decide (n<=999999)
theorem BD{v:Vers}(h:[v.major,v.minor,v.patch].all qY=false):ek v=40:=by unfold ek;rw[N6];simp only[NI,Ql,Oa,Pp,qY,Ns]at h;omega
theorem yM{v:Vers}(h:[v.major,v.minor,v.patch].all qY=true):ek v=if 24<v.pre.length then 40 else if v.pre=[]then 0 else if(splitB 46 v.pre).all gA=true then 0 else 40:=by unfold ek;rw[N3];simp only[NI,Ql,Oa,N4,qY,N8]at h;omega
end Go.Pd
namespace Go.Pd
open Go.AL
theorem yN{s:Str}(h:¬(splitB 46 (aU s)).length=3):er s=(noV,40):=by unfold er;rw[N6 (.inl h)]
theorem yO{s:Str}(h:jm s=true)(k:eI s=[]):er s=(noV,40):=by unfold er;rw[N6 (.inr ⟨h,k⟩)]
theorem qK{s:Str}(h:(splitB 46 (aU s)).length=3)(k:jm s=true->¬eI s=[]) :
  er s=if(splitB 46 (aU s)).all fW=true then(if ek (fM s)=0 then(fM s,0)else(noV,40))else(noV,40):=by
 unfold er;rw[N3];rintro(e|⟨e1,e2⟩)
 ·exact e h
 ·exact k e1 e2
theorem sL(v:Vers):ek v=0∨ek v=40:=by
 unfold ek
 repeat' split
 all_goals first|exact .inl rfl|exact .inr rfl
theorem yP{s:Str}{k:Nat}(hk:k<3):(oY s k).set k (im ((splitB 46 (aU s)).getD k []))=oY s (k+1):=by
 match k,hk with
 |0,_=>rfl
 |1,_=>rfl
 |2,_=>rfl
theorem ir{t:Str}(h:dn t=true)(hl:t.length<=15):kz t:=by unfold dn at h;rw[N4]at h;refine⟨fun e=>by rw[e]at h;simp at h,hl,fun c hc=>?_⟩;have:=Ng.1 h.2 c hc;unfold cv bI at this;simp only[N4,N8]at this;omega
theorem vi(s:Str):(aU s).length<=s.length:=(List.takeWhile_sublist _).length_le
end Go.Pd
namespace Go.Pd
open Go.AL
theorem sM:∀s:Str,(b9 s).map (fun n=>UInt8.ofNat n.toNat)=s
 |[]=>rfl
 |b::r=>by have ih:=sM r;unfold b9 at ih⊢;simp only[Nj,ih];congr 1;simp
theorem lf(a b:Str):b9 (a++b)=b9 a++b9 b:=Ox
theorem HB{b:Int}(h:jn b=none):pZ [110,116,34,92] b<0:=by
 unfold jn at h;by_cases h1:b=110
 ·rw[N6 h1]at h;cases h
 rw[N3 h1]at h;by_cases h2:b=116
 ·rw[N6 h2]at h;cases h
 rw[N3 h2]at h;by_cases h3:b=34
 ·rw[N6 h3]at h;cases h
 rw[N3 h3]at h;by_cases h4:b=92
 ·rw[N6 h4]at h;cases h
 have e1:¬(bI 110=b):=fun e=>h1 e.symm;have e2:¬(bI 116=b):=fun e=>h2 e.symm;have e3:¬(bI 34=b):=fun e=>h3 e.symm;have e4:¬(bI 92=b):=fun e=>h4 e.symm;simp[pZ,bu,e1,e2,e3,e4]
theorem HC{b x:Int}(h:jn b=some x):0<=pZ [110,116,34,92] b/\pZ [110,116,34,92] b<4/\[(10:UInt8),9,34,92].getD (pZ [110,116,34,92] b).toNat 0=UInt8.ofNat x.toNat:=by
 unfold jn at h;by_cases h1:b=110
 ·rw[N6 h1]at h;cases h;subst h1;decide
 rw[N3 h1]at h;by_cases h2:b=116
 ·rw[N6 h2]at h;cases h;subst h2;decide
 rw[N3 h2]at h;by_cases h3:b=34
 ·rw[N6 h3]at h;cases h;subst h3;decide
 rw[N3 h3]at h;by_cases h4:b=92
 ·rw[N6 h4]at h;cases h;subst h4;decide
 rw[N3 h4]at h;cases h
theorem mU{s:Str}{a x:Int}(h:jn (bAt s a)=some x):a<(s.length:Int):=by
 rcases Int.lt_or_le a s.length with k|k
 ·exact k
 ·rw[oW k]at h;cases h
theorem q8{s:Str}{a:Int}(h0:¬bAt s a<32)(h1:¬bAt s a=34)(h2:¬bAt s a=92):a<(s.length:Int)/\(0<=a->1<=aq aH s a):=by
 have hl:a<(s.length:Int):=by
  rcases Int.lt_or_le a s.length with k|k
  ·exact k
  ·rw[oW k]at h0;omega
 refine⟨hl,fun h=>?_⟩;rw[jo hl]at h0 h1 h2
 rw[cN h hl (by
  unfold aH;rw[Xd (by omega),Xf h1,Xf h2];rfl)]
 omega
theorem EC{x:Str}(h:bO x=none):wW x=⟨0,0⟩:=by unfold wW;rw[h]
theorem ED{x:Str}{k:Nat}(h:bO x=some k):wW x=⟨30,k⟩:=by unfold wW;rw[h]
theorem yQ:∀(f:Nat)(x:Str)(a k:Nat),gn f x a=some k->k<=a+x.length
 |0,_,_,_,h=>by cases h
 |f+1,x,a,k,h=>by
  simp only[gn]at h;split at h
  ·cases h
  ·split at h
   ·cases h;omega
   ·rename_i h1 h2;have ih:=yQ f _ _ _ h;rw[NU]at ih;have:=(kB h1).2.1 h2;have:=(kB h1).2.2.2.2;omega
theorem vj{x:Str}{k:Nat}(h:bO x=some k):k<=x.length:=by have:=yQ _ _ _ _ h;omega
end Go.Pd
namespace Go.Pd
open Go.AL
theorem Dx{s:Str}{a:Int}(h:bAt s a≠0):a<(s.length:Int):=by
 rcases Int.lt_or_le a s.length with k|k
 ·exact k
 ·rw[oW k]at h;exact absurd rfl h
theorem eG(s:Str)(fr:Int):∀(n:Nat)(acc:Str)(c:SC),0<=c.pos->c.pos<=(s.length:Int)->
  (bW s fr n acc c).2.2.out=c.out/\c.pos<=(bW s fr n acc c).2.2.pos/\(bW s fr n acc c).2.2.pos<=(s.length:Int)
 |0,acc,c,h0,h1=>⟨rfl,OE _,h1⟩
 |n+1,acc,c,h0,h1=>by
  rw[bW];by_cases a:bAt s c.pos<32
  ·rw[N6 a];exact⟨rfl,OE _,h1⟩
  rw[N3 a];have hl:=Dx (s:=s) (a:=c.pos) (fun e=>by rw[e]at a;omega);by_cases b:bAt s c.pos=34
  ·rw[N6 b];exact⟨rfl,by show c.pos<=c.pos+1;omega,by show c.pos+1<=_;omega⟩
  rw[N3 b];by_cases d:bAt s c.pos=92
  ·rw[N6 d]
   cases he:jn (bAt s (c.pos+1))with
   |none=>exact⟨rfl,OE _,h1⟩
   |some x=>have hp:=mU he;obtain⟨i1,i2,i3⟩:=eG s fr n (acc++[UInt8.ofNat x.toNat]) (bV c (c.pos+2)) (by show 0<=c.pos+2;omega) (by show c.pos+2<=_;omega);have i2':c.pos+2<=_:=i2;exact⟨i1,by simp only;omega,i3⟩
  rw[N3 d];have hw:=dp (pr:=aH) h0 h1
  cases hb:bO (cut s c.pos (c.pos+(aq aH s c.pos:Int)))with
  |some k=>exact⟨rfl,by show c.pos<=c.pos+(aq aH s c.pos:Int);omega,hw⟩
  |none=>obtain⟨i1,i2,i3⟩:=eG s fr n (acc++cut s c.pos (c.pos+(aq aH s c.pos:Int))) (bV c (c.pos+(aq aH s c.pos:Int))) (by show 0<=c.pos+_;omega) hw;have i2':c.pos+(aq aH s c.pos:Int)<=_:=i2;exact⟨i1,by simp only;omega,i3⟩
theorem fg{s:Str}{c:SC}(h0:0<=c.pos)(h1:c.pos<(s.length:Int))(h:(aP s c).1=true) :
  c.pos<(aP s c).2.pos/\(aP s c).2.pos<=(s.length:Int)/\(aP s c).2.out.length=c.out.length+1:=by
 have add:∀(k:Int)(t:Str)(e:Int),c.pos<e->e<=(s.length:Int)->c.pos<(fE k t c.pos (bV c e)).2.pos/\(fE k t c.pos (bV c e)).2.pos<=(s.length:Int)/\(fE k t c.pos (bV c e)).2.out.length=c.out.length+1:=fun k t e a b=>
  ⟨a,b,by show(c.out++[_]).length=_;rw[N5,Nc]⟩
 unfold aP at h⊢;by_cases a:bL (bAt s c.pos)=true∨bM (bAt s c.pos)=true
 ·rw[N6 a]at h⊢
  have hr:bB (bI (s.getD c.pos.toNat 0))=true:=by
   rw[jo h1]at a;unfold bB;rcases a with a|a
   ·rw[a];rfl
   ·rw[a,PN];rfl
  have hw:=cN (pr:=bB) h0 h1 hr;have hl:=dp (pr:=bB) h0 (Qm h1);unfold sG at h⊢;split at h
  ·rename_i x;rw[N6 x];exact add _ _ _ (by omega) hl
  ·rename_i x;rw[N3 x];split at h
   ·rename_i y;rw[N6 y];exact add _ _ _ (by omega) hl
   ·rename_i y;rw[N3 y];split at h
    ·rename_i z;rw[N6 z];exact add _ _ _ (by omega) hl
    ·cases h
 rw[N3 a]at h⊢;by_cases b:cv (bAt s c.pos)=true
 ·rw[N6 b]at h⊢;have hr:ck (bI (s.getD c.pos.toNat 0))=true:=by rw[jo h1]at b;unfold ck;rw[b,PN];rfl
  have hw:=cN (pr:=ck) h0 h1 hr;have hl:=dp (pr:=ck) h0 (Qm h1);unfold wT at h⊢;split at h
  ·rename_i x;rw[N6 x];exact add _ _ _ (by omega) hl
  ·rename_i x;rw[N3 x];split at h
   ·rename_i y;rw[N6 y];exact add _ _ _ (by omega) hl
   ·cases h
 rw[N3 b]at h⊢;by_cases d:bAt s c.pos=34
 ·rw[N6 d]at h⊢;obtain⟨q1,q2,q3⟩:=eG s c.pos (s.length+2) [] (bV c (c.pos+1)) (by show 0<=c.pos+1;omega) (by show c.pos+1<=_;omega);have q2':c.pos+1<=(cn s c).2.2.pos:=q2;have q1':(cn s c).2.2.out=c.out:=q1;unfold wU at h⊢;split at h
  ·rename_i x;rw[N6 x];exact⟨by show c.pos<(cn s c).2.2.pos;omega,q3,by show((cn s c).2.2.out++[_]).length=_;rw[q1',N5,Nc]⟩
  ·cases h
 rw[N3 d]at h⊢;unfold sH at h⊢;split at h
 ·rename_i x;rw[N6 x];unfold ez at x;simp only[N4,N8]at x;exact add _ _ _ (by omega) x.1
 ·rename_i x;rw[N3 x];split at h
  ·rename_i y;rw[N6 y];unfold ez at y;simp only[N4,N8]at y;exact add _ _ _ (by omega) y.1
  ·cases h
theorem jr(b:Int):gO b=true↔(b=32∨b=10∨b=9∨b=13):=by unfold gO;simp only[NW,N8];omega
end Go.Pd
end
section
namespace Go.AL
open Go.Proofs Go.Shelf Go.RowKit Go.Pd
theorem iH{c:UInt8}:∀{s:Str},Lib.indexByte s c=-1->c∉s
 |[],_=>Ph
 |b::r,h=>by
  unfold Lib.indexByte at h;by_cases e:b=c
  ·subst e;simp at h
  ·have e':(b ==c)=false:=Pg.2 e;rw[e']at h;simp only[NC,ND]at h;have hg:=Lib.indexByte_ge r c;split at h
   ·rename_i k;have:=iH (s:=r) (by simpa using k);rw[Nw,Qj];exact⟨fun q=>e q.symm,this⟩
   ·omega
theorem gr{c:UInt8}:∀{s:Str},Lib.indexByte s c≠-1->∃k:Nat,Lib.indexByte s c=k/\k<s.length/\s=s.take k++c::s.drop (k+1)/\c∉s.take k
 |[],h=>absurd rfl h
 |b::r,h=>by
  unfold Lib.indexByte at h⊢;by_cases e:b=c
  ·subst e;refine⟨0,by simp,by simp,by simp,by simp⟩
  ·have e':(b ==c)=false:=Pg.2 e;rw[e']at h⊢;simp only[NC,ND]at h⊢;split at h
   ·exact absurd rfl h
   ·rename_i k;obtain⟨j,j1,j2,j3,j4⟩:=gr (s:=r) (by simpa using k);rw[N3 k];refine⟨j+1,by rw[j1];rfl,by simp;omega,?_,?_⟩
    ·rw[Pz,List.drop_succ_cons,NY,<-j3]
    ·rw[Pz,Nw,Qj];exact⟨fun q=>e q.symm,j4⟩
theorem sO{c:UInt8}:∀{s:Str},c∉s->splitB c s=[s]
 |[],_=>rfl
 |b::r,h=>by rw[Nw,Qj]at h;unfold splitB;rw[N3 (fun e=>h.1 e.symm),sO h.2]
theorem mV{c:UInt8}:∀{a:Str} (r:Str),c∉a->splitB c (a++c::r)=a::splitB c r
 |[],r,_=>by rw[Nk,splitB,N6 rfl]
 |b::a,r,h=>by rw[Nw,Qj]at h;rw[NY,splitB,N3 (fun e=>h.1 e.symm),mV r h.2]
theorem sP(c:UInt8):∀(n:Nat)(s:Str),s.length<=n->Lib.splitK [c] 0 (s.count c) s=splitB c s
 |n,s,hn=>by
  by_cases h:Lib.indexByte s c=-1
  ·have hm:=iH h;rw[List.count_eq_zero.2 hm,sO hm];rfl
  ·obtain⟨k,k1,k2,k3,k4⟩:=gr h;have hc:s.count c=(s.drop (k+1)).count c+1:=by have e:=OH (List.count c) k3;rw[List.count_append,List.count_cons_self,List.count_eq_zero.2 k4]at e;omega
   rw[hc];unfold Lib.splitK;rw[Lib.index_one,N3 (by simpa using h),k1];have hd:(k:Int).toNat+[c].length=k+1:=rfl;have ht:(k:Int).toNat+0=k:=rfl;rw[hd,ht]
   cases n with
   |zero=>omega
   |succ n=>
    rw[sP c n (s.drop (k+1)) (by rw[NU];omega)];conv=>rhs;rw[k3]
    rw[mV _ k4]
theorem p7{c:UInt8}:∀{a:Str} (r:Str),c∉a->(a++c::r).takeWhile (fun b=>!decide (b=c))=a
 |[],r,_=>by simp
 |b::a,r,h=>by rw[Nw,Qj]at h;have hb:¬b=c:=fun e=>h.1 e.symm;rw[NY,OM];simp only[hb,OA,PM,NS];rw[p7 r h.2]
theorem uD{c:UInt8}{s:Str}(h:c∉s):s.takeWhile (fun b=>!decide (b=c))=s:=by
 induction s with
 |nil=>rfl
 |cons b r ih=>rw[Nw,Qj]at h;have hb:¬b=c:=fun e=>h.1 e.symm;rw[OM];simp only[hb,OA,PM,NS];rw[ih h.2]
theorem HD(s:Str):Lib.cut s [45]=(aU s,eI s,jm s):=by
 unfold Lib.cut;rw[Lib.index_one];by_cases h:Lib.indexByte s 45=-1
 ·have hm:=iH h;rw[h,N3 (by decide)];have e:aU s=s:=uD hm;unfold eI jm;rw[e,OI (by omega)];simp
 ·obtain⟨k,k1,k2,k3,k4⟩:=gr h;rw[k1,N6 (by omega)]
  have e:aU s=s.take k:=by
   unfold aU;conv=>lhs;rw[k3]
   exact p7 _ k4
  have hl:(s.take k).length=k:=by rw[OP];omega
  unfold eI jm;rw[e,hl];simp[k2]
theorem K4(s:Str)(c:Int)(h0:0<=c)(h1:c<=255):∀k:Nat,bu (fun b=>!decide (bI b=c)) s k=if Lib.indexByte s c.toNat.toUInt8=-1 then -1 else Lib.indexByte s c.toNat.toUInt8+k:=by
 have hb:∀b:UInt8,(bI b=c)↔b=c.toNat.toUInt8:=by
  intro b;unfold bI;constructor
  ·intro e;have:c.toNat=b.toNat:=by omega
   rw[this];simp
  ·intro e;rw[e];simp[Nat.toUInt8];omega
 induction s with
 |nil=>intro k;rfl
 |cons b r ih=>
  intro k;rw[bu];by_cases e:bI b=c
  ·have e2:=(hb b).1 e;rw[N3 (by simp[e])];unfold Lib.indexByte;rw[e2];simp
  ·have e2:(b ==c.toNat.toUInt8)=false:=Pg.2 (fun q=>e ((hb b).2 q));rw[N6 (by simp[e]),ih (k+1)];have hg:=Lib.indexByte_ge r c.toNat.toUInt8;have e3:Lib.indexByte (b::r) c.toNat.toUInt8=(if b ==c.toNat.toUInt8 then 0 else if Lib.indexByte r c.toNat.toUInt8 ==-1 then -1 else Lib.indexByte r c.toNat.toUInt8+1):=rfl;rw[e3,e2];simp only[NC,ND,O7];by_cases q:Lib.indexByte r c.toNat.toUInt8=-1
   ·rw[N6 q,N6 q];rfl
   ·rw[N3 q,N3 q,N3 (by omega)];omega
theorem yR(s:Str)(c:UInt8):decide (0<=Lib.indexByte s c)=decide (c∈s):=by
 have hg:=Lib.indexByte_ge s c;rw[On];by_cases h:Lib.indexByte s c=-1
 ·exact⟨fun e=>by omega,fun e=>absurd e (iH h)⟩
 ·obtain⟨k,k1,k2,k3,k4⟩:=gr h;exact⟨fun _=>by rw[k3];simp,fun _=>by omega⟩
variable [Tabs] {P:Program} {ρ:Ren}
theorem Below.drawn(w:World)(n:Nat):Below w.heap.size w (w.drewN n):=⟨rfl,rfl,rfl,Nf _,fun _ _=>rfl⟩
theorem After.news{w w':World}{pub:Nat->Nat->Prop}{e:Nat->Option CObj}(hp:kh w pub)(hd:∀id,e id=none)(hb:Below w.heap.size w w'){p:Nat->Prop}(hc:∀o,p o->∃v,w'.cell? ⟨w.heap.size,o,none⟩=some v) :
  After w pub e (aE (putB [] [])) w' (fun b o=>pub b o∨(b=w.heap.size/\p o)) e where
 os:=hb.os
 tape:=hb.tape
 output:=hb.output
 size:=hb.size
 block b h _:=hb.block b h
 cell b o h _:=aF (hb.block b h) o
 kind b h _:=⟨bZ (hb.block b h),fun o=>bC (hb.block b h) o⟩
 ext:=⟨fun _ c h=>⟨c,h,CLe.refl c⟩,fun _ _ h=>.inl h,fun b o h=>by obtain⟨v,hv⟩:=hp b o h;exact aF (hb.block b (b7 hv)) o⟩
 fresh b o h:=by
  rcases h with h|⟨rfl,_⟩
  ·exact .inl h
  ·exact .inr (.inl (Nf _))
 ok b o h:=by
  rcases h with h|⟨rfl,h⟩
  ·obtain⟨v,hv⟩:=hp b o h;exact⟨v,(aF (hb.block b (b7 hv)) o).trans hv⟩
  ·exact hc o h
 slots id o h:=by simp[putB,aE]at h
 dom id _:=hd id
 inj i j c d b o h:=by rw[hd i]at h;cases h
theorem eh{f:Nat}{args:List AV}{A:AV}{ob:Option Prop}(h:∀(w:World)(pub:Nat->Nat->Prop)(vs:List Value),ja w pub (fun _=>none)->VL ⟨fun _=>none,w,pub⟩ args vs->Calls P f vs.toArray w fun e w'=>(∃v,e=.returned v/\∀Ω,V Ω A v)/\Below w.heap.size w w') :
  ax P f args [] ⟨ob,none,A,[]⟩:=by
 intro w pub e vs hp ht hv hs hd hi;have he:e=fun _=>none:=funext fun id=>hd id rfl;subst he;refine(h w pub vs ht hv).mono ?_;rintro en w' ⟨⟨v,rfl,hV⟩,hb⟩;exact⟨pub,_,And.intro (fun b pv u h=>by cases h) (And.intro (hV _) (After.below hp (fun _=>rfl) hb))⟩
theorem VL.two_str{Ω:Om}{a b:Str}{vs:List Value}(h:VL Ω [.str a,.str b] vs):vs=[.string ⟨a.toArray⟩,.string ⟨b.toArray⟩]/\a.length<=cm/\b.length<=cm:=by obtain⟨v1,v2,rfl,h1,h2⟩:=VL.two_inv h;obtain⟨rfl,l1⟩:=h1.str_inv;obtain⟨rfl,l2⟩:=h2.str_inv;exact⟨rfl,l1,l2⟩
def K5:Pat:=p2 .str .str fun a b=>⟨some (b=qX),none,.str (nD a),[]⟩
set_option maxRecDepth 100000 in
theorem HE(b:UInt8):qX.contains b=jN b:=by
 have h:∀b:Fin 256,qX.contains (UInt8.ofNat b.val)=jN (UInt8.ofNat b.val):=by decide
 have:=h ⟨b.toNat,b.toNat_lt⟩;simpa using this
theorem BE{f:Nat}(L:Lays.n160 P ρ)(h116:(P.info? (ρ.t 116)).map (fun i=>(i.zero,i.size))=some (some (.agg (Array.replicate 256 (.bool false))),256))(hf:ρ.f 160=f)(he:aw P f):ae P f K5:=by
 subst hf;refine fB he fun a b _ _ ho=>?_;have hb:=ho _ rfl;subst hb;refine eh fun w pub vs _ hv=>?_;obtain⟨rfl,l1,l2⟩:=VL.two_str hv;have l1':a.length<=9223372036854775807:=l1;refine(Any.strings_Trim_laid L h116 ⟨a.toArray⟩ ⟨qX.toArray⟩ w (by simpa[ByteArray.size]using l1') (by decide) (fun j b hj=>?_)).mono ?_
 ·have hd:∀b∈qX,b.toNat<128:=by decide
  exact hd b (NQ hj)
 ·rintro en w' ⟨rfl,hb⟩;refine⟨⟨_,rfl,fun Ω=>?_⟩,hb⟩;have e:Lib.trimS a qX=nD a:=by have ef:(fun b=>qX.contains b)=jN:=funext HE;unfold Lib.trimS Lib.trimLeftS Lib.trimRightS nD;rw[ef]
  have e2:(⟨a.toArray⟩:ByteArray).data.toList=a:=rfl;have e3:(⟨qX.toArray⟩:ByteArray).data.toList=qX:=rfl;rw[e2,e3,e];exact .str _ (NG (HA a) l1)
def LG:Pat:=p2 .str .str fun a b=>⟨some (b=[45]/\a.length<4294967281),none,.tup [.str (aU a),.str (eI a),.bool (jm a)],[]⟩
theorem EE{f:Nat}{m:Int}(L:Lays.n145 P ρ)(hm:Tabs.tab (ρ.g 1) 0 (.int .i64 m))(hf:ρ.f 145=f)(he:aw P f):ae P f LG:=by
 subst hf;refine fB he fun a b _ _ ho=>?_;obtain⟨hb,hl⟩:=ho _ rfl;subst hb;refine eh fun w pub vs ht hv=>?_;obtain⟨rfl,l1,l2⟩:=VL.two_str hv;refine(Any.strings_Cut L ⟨a.toArray⟩ ⟨([45]:Str).toArray⟩ m w (by simpa[ByteArray.size]using hl) (ht.1 _ _ _ hm).2).mono ?_;rintro en w' ⟨rfl,n,rfl⟩;refine⟨⟨_,rfl,fun Ω=>?_⟩,Below.drawn w n⟩;have e2:(⟨a.toArray⟩:ByteArray).data.toList=a:=rfl;have e3:(⟨([45]:Str).toArray⟩:ByteArray).data.toList=[45]:=rfl;rw[e2,e3,HD];refine V.of_tup (VL.cons (.str _ ?_) (VL.cons (.str _ ?_) (VL.cons (.bool _) .nil)))
 ·exact NG (vi a) l1
 ·unfold eI;rw[NU];exact NG (Nat.sub_le _ _) l1
def yS:Pat:=p2 .str .str fun a b=>⟨some (b.length=1),none,.bool (decide (b.getD 0 0∈a)),[]⟩
theorem sQ{f:Nat}(L:Lays.n144 P ρ)(hf:ρ.f 144=f)(he:aw P f):ae P f yS:=by
 subst hf;refine fB he fun a b _ _ ho=>?_;have hb:b.length=1:=ho _ rfl
 obtain⟨c,rfl⟩:∃c,b=[c]:=by
  match b,hb with
  |[c],_=>exact⟨c,rfl⟩
 refine eh fun w pub vs ht hv=>?_;obtain⟨rfl,l1,l2⟩:=VL.two_str hv;refine(Any.strings_Contains_one L ⟨a.toArray⟩ c w).mono ?_;rintro en w' ⟨rfl,rfl⟩;refine⟨⟨_,rfl,fun Ω=>?_⟩,Below.refl _ _⟩;have e2:(⟨a.toArray⟩:ByteArray).data.toList=a:=rfl;rw[e2,yR];exact .bool _
def wX:Pat:=p2 .str (.int .u8) fun a c=>.ret (.int .i64 (pZ a c))
theorem qZ{f:Nat}(L:Lays.n137 P ρ)(hf:ρ.f 137=f)(he:aw P f):ae P f wX:=by
 subst hf;refine fB he fun a c _ _ ho=>?_;refine eh fun w pub vs ht hv=>?_;obtain⟨v1,v2,rfl,h1,h2⟩:=VL.two_inv hv;obtain⟨rfl,l1⟩:=h1.str_inv;obtain⟨rfl,c1,c2⟩:=(show V _ (.int .u8 c) v2 from h2).int_inv;have c1:(0:Int)<=c:=c1;have c2:c<=(255:Int):=c2;refine(Any.strings_IndexByte L ⟨a.toArray⟩ c w).mono ?_;rintro en w' ⟨rfl,rfl⟩;refine⟨⟨_,rfl,fun Ω=>?_⟩,Below.refl _ _⟩;have e2:(⟨a.toArray⟩:ByteArray).data.toList=a:=rfl
 have e:pZ a c=Lib.indexByte a c.toNat.toUInt8:=by
  unfold pZ;rw[K4 a c c1 c2 0];split
  ·rename_i h;exact h.symm
  ·simp
 rw[e2,e];have hg:=Lib.indexByte_ge a c.toNat.toUInt8
 have hu:Lib.indexByte a c.toNat.toUInt8<=(a.length:Int):=by
  by_cases q:Lib.indexByte a c.toNat.toUInt8=-1
  ·omega
  ·obtain⟨k,k1,k2,_⟩:=gr q;omega
 have l1':a.length<=9223372036854775807:=l1;have b1:inR .i64 (Lib.indexByte a c.toNat.toUInt8):=aK (by omega) (by omega);exact .int _ _ b1.1 b1.2
def HF:Pat:=p2 .str .str fun a b=>⟨some (b=[46]/\a.length<4294967281),none,.lst .str (splitB 46 a) none,[]⟩
theorem sR(c:UInt8):∀(s:Str),∀x∈splitB c s,x.length<=s.length
 |[],x,h=>by rw[NK.1 h];exact Nf _
 |b::r,x,h=>by
  have ih:=sR c r;unfold splitB at h;split at h
  ·rcases Nw.1 h with e|e
   ·rw[e];exact Nt _
   ·have:=ih x e;rw[N7];omega
  ·split at h
   ·rw[NK.1 h,N7];simp
   ·rename_i p ps e0;rcases Nw.1 h with e|e
    ·have:=ih p (by rw[e0];exact NF ..);rw[e,N7,N7];omega
    ·have:=ih x (by rw[e0];exact Nn _ e);rw[N7];omega
theorem yT{f:Nat}{m:Int}(L:Lays.n146 P ρ)(hi9:(P.info? (ρ.t 9)).map (fun i=>(i.zero,i.size,i.bytes))=some (some (.string ByteArray.empty),1,16))(hm:Tabs.tab (ρ.g 1) 0 (.int .i64 m))(hf:ρ.f 146=f)(he:aw P f):ae P f HF:=by
 subst hf;refine fB he fun a b _ _ ho=>?_;obtain⟨hb,hl⟩:=ho _ rfl;subst hb;intro w pub e vs hp ht hv hs hd hi;obtain⟨rfl,l1,l2⟩:=VL.two_str hv;have l1':a.length<=9223372036854775807:=l1;refine(Any.strings_Split L hi9 ⟨a.toArray⟩ ⟨([46]:Str).toArray⟩ m w (by simpa[ByteArray.size]using hl) (ht.1 _ _ _ hm).2 (by decide)).mono ?_;rintro en w' ⟨rfl,rfl⟩;have e2:(⟨a.toArray⟩:ByteArray).data.toList=a:=rfl;have e3:(⟨([46]:Str).toArray⟩:ByteArray).data.toList=[46]:=rfl;have hcount:Lib.countB ⟨a.toArray⟩ ⟨([46]:Str).toArray⟩=a.count 46:=by show Lib.count a [46]=_;rw[Lib.count_one]
 have hsp:(Lib.splitB ⟨([46]:Str).toArray⟩ 0 (Lib.countB ⟨a.toArray⟩ ⟨([46]:Str).toArray⟩) ⟨a.toArray⟩).map (·.data.toList)=splitB 46 a:=by rw[Lib.splitB_data,hcount];exact sP 46 a.length a (Nf _)
 generalize Lib.splitB ⟨([46]:Str).toArray⟩ 0 (Lib.countB ⟨a.toArray⟩ ⟨([46]:Str).toArray⟩) ⟨a.toArray⟩=bs at hsp
 have hcl:(splitB 46 a).length=Lib.countB ⟨a.toArray⟩ ⟨([46]:Str).toArray⟩+1:=by
  rw[hcount]
  have:∀s:Str,(splitB 46 s).length=s.count 46+1:=by
   intro s
   induction s with
   |nil=>rfl
   |cons b r ih=>
    unfold splitB;split
    ·rename_i h;subst h;rw[N7,ih,List.count_cons_self]
    ·rename_i h;rw[List.count_cons_of_ne h];split
     ·rename_i e0;rw[e0]at ih;simp at ih
     ·rename_i p ps e0;rw[e0]at ih;simpa using ih
  exact this a
 have hbl:bs.length=(splitB 46 a).length:=by rw[<-hsp,Oc]
 have hsz:=jW 46 a;rw[<-hcl];have hnew:(w.alloc (.cells (bs.map Value.string).toArray (ρ.t 9))).heap[w.heap.size]?=some (.cells (bs.map Value.string).toArray (ρ.t 9) (0,0)):=dt _ _;have hbw:Below w.heap.size w (w.alloc (.cells (bs.map Value.string).toArray (ρ.t 9))):=⟨rfl,rfl,rfl,by simp,fun b hb=>ig _ _ _ hb⟩;refine⟨fun b o=>pub b o∨(b=w.heap.size/\o<bs.length),e,And.intro (fun b pv u h=>by cases h) (And.intro ?_ (After.news hp (fun id=>hd id rfl) hbw (p:=fun o=>o<bs.length) (fun o ho=>?_)))⟩
 ·refine rX (Ω:=⟨e,w.alloc (.cells (bs.map Value.string).toArray (ρ.t 9)),fun b o=>pub b o∨(b=w.heap.size/\o<bs.length)⟩) (τ:=.str) (xs:=splitB 46 a) (vs:=bs.map Value.string) hnew ?_ ?_ (Nf _) (by unfold cm;omega) (fun i hi=>.inr ⟨rfl,by rw[hbl];simpa[ag]using hi⟩) (fun id hid=>by cases hid)
  ·have e1:(splitB 46 a).length *ag .str=bs.length:=by rw[hbl];exact Qg _
   rw[e1];exact OJ (by simp)
  ·have ef:bD .str (splitB 46 a)=(splitB 46 a).map AV.str:=by unfold bD;rw[Q1];rfl
   rw[ef,<-hsp];refine⟨by simp,fun j c v hc hv=>?_⟩;rw[Q5,NM,NB]at hc;rw[NM,NB]at hv;obtain⟨x,hx,rfl⟩:=hc;obtain⟨y,hy,rfl⟩:=hv;rw[hx]at hy;cases hy;have hmem:x.data.toList∈splitB 46 a:=by rw[<-hsp];exact Q3 (NQ hx)
   have hle:=sR 46 a _ hmem;have:=V.str (Ω:=⟨e,w.alloc (.cells (bs.map Value.string).toArray (ρ.t 9)),fun b o=>pub b o∨(b=w.heap.size/\o<bs.length)⟩) x.data.toList (NG hle l1);exact this
 ·rw[aT hnew];exact⟨_,P1 (by simpa using ho)⟩
def p8[Tabs](g3 g4:Nat):Prop:=
 (∀c,c<256->Tabs.tab g3 c (.int .u8 (Lib.firstT c)))/\(∀i,i<16->Tabs.tab g4 (2 *i) (.int .u8 (Lib.accLo i))/\Tabs.tab g4 (2 *i+1) (.int .u8 (Lib.accHi i)))
theorem p8.tabs{g3 g4:Nat}(h:p8 g3 g4){w:World}{pub:Nat->Nat->Prop}{e:Nat->Option CObj}(ht:ja w pub e):Lib.Utf8Tabs g3 g4 w:=
 ⟨fun c hc=>(ht.1 _ _ _ (h.1 c hc)).2,fun i hi=>⟨(ht.1 _ _ _ (h.2 i hi).1).2,(ht.1 _ _ _ (h.2 i hi).2).2⟩⟩
theorem K6(s:Str)(k:Nat)(h:k<s.length):((⟨s.toArray⟩:ByteArray).get! k)=s.getD k 0:=by rw[Utf8W.get!_of_lt _ k (by simpa[ByteArray.size]using h)];have:(⟨s.toArray⟩:ByteArray)[k]'(by simpa[ByteArray.size]using h)=s[k]:=rfl;rw[this];simp[Nb,h]
theorem yU(n b0 b1 b2 b3 c1 c2 c3:Nat)(h1:1<n->b1=c1)(h2:2<n->b2=c2)(h3:3<n->b3=c3):Lib.decodeN n b0 b1 b2 b3=Lib.decodeN n b0 c1 c2 c3:=by
 rcases Nv 3 n with k|k
 ·rw[h1 (by omega),h2 (by omega),h3 k]
 rcases Nv 2 n with k2|k2
 ·rw[h1 (by omega),h2 k2];unfold Lib.decodeN;have e:¬3<n:=by omega
  simp only[e,false_and,and_false,ND]
 rcases Nv 1 n with k1|k1
 ·rw[h1 k1];unfold Lib.decodeN;have e:¬3<n:=by omega
  have e':¬2<n:=by omega
  simp only[e,e',false_and,and_false,ND]
 ·unfold Lib.decodeN;have e:¬3<n:=by omega
  have e':¬2<n:=by omega
  have e'':¬1<n:=by omega
  simp only[e,e',e'',false_and,and_false,ND]
theorem qL(s:Str):Lib.decodeGo ⟨s.toArray⟩=iG s:=by
 unfold Lib.decodeGo iG;have hs:(⟨s.toArray⟩:ByteArray).size=s.length:=by simp[ByteArray.size]
 rw[hs];by_cases h:s=[]
 ·subst h;rfl
 have hl:=O2.2 h;rw[N3 (by omega),N3 h,Lib.decode_at,hs,PL,K6 s 0 hl];exact yU _ _ _ _ _ _ _ _ (fun k=>by rw[K6 s 1 k]) (fun k=>by rw[K6 s 2 k]) (fun k=>by rw[K6 s 3 k])
def uE:Pat:=p1 .str fun s=>.ret (.tup [.int .i32 ((iG s).1:Int),.int .i64 ((iG s).2:Int)])
theorem BF(s:Str):(iG s).1<=1114111/\(iG s).2<=s.length:=by
 by_cases h:s=[]
 ·subst h;decide
 ·have:=kB h;exact⟨this.2.2.1,this.2.2.2.2⟩
theorem q9{f:Nat}(L:Lays.n197 P ρ)(hu:p8 (ρ.g 3) (ρ.g 4))(hf:ρ.f 197=f)(he:aw P f):ae P f uE:=by subst hf;refine bX he fun s _ ho=>?_;refine eh fun w pub vs ht hv=>?_;obtain⟨v,rfl,h1⟩:=VL.one_inv hv;obtain⟨rfl,hl⟩:=h1.str_inv;have hl':s.length<=9223372036854775807:=hl;refine(Any.utf8_DecodeRuneInString L ⟨s.toArray⟩ w (hu.tabs ht)).mono ?_;rintro en w' ⟨rfl,hb⟩;refine⟨⟨_,rfl,fun Ω=>?_⟩,hb⟩;rw[qL];obtain⟨d1,d2⟩:=BF s;exact V.of_tup (VL.cons (.int .i32 _ (by show(-2147483648:Int)<=_;omega) (by show _<=(2147483647:Int);omega)) (VL.cons (.int .i64 _ (by show(-9223372036854775808:Int)<=_;omega) (by show _<=(9223372036854775807:Int);omega)) .nil))
theorem sS:∀(n:Nat)(l:Str)(k:Nat),Lib.validGoD n l=(gn n l k).isNone
 |0,_,_=>rfl
 |n+1,l,k=>by
  unfold Lib.validGoD;rw[gn];by_cases h:l=[]
  ·rw[N6 h,N6 h];rfl
  rw[N3 h,N3 h]
  have hd:Lib.decodeL l=iG l:=by
   rw[<-qL];unfold Lib.decodeL Lib.decodeGo
   rw[N3 (by
    have:=O2.2 h;simp[ByteArray.size];exact h)]
  obtain⟨b1,b2,_⟩:=kB h;rw[hd];by_cases u:dD l=0
  ·rw[N6 (b1.2 u),N6 u];rfl
  ·rw[N3 (fun e=>u (b1.1 e)),N3 u,b2 u];exact sS n _ _
def HG:Pat:=p1 .str fun s=>.ret (.bool (bO s).isNone)
theorem yV{f:Nat}(L:Lays.n196 P ρ)(hu:p8 (ρ.g 3) (ρ.g 4))(hf:ρ.f 196=f)(he:aw P f):ae P f HG:=by subst hf;refine bX he fun s _ ho=>?_;refine eh fun w pub vs ht hv=>?_;obtain⟨v,rfl,h1⟩:=VL.one_inv hv;obtain⟨rfl,hl⟩:=h1.str_inv;have hl':s.length<=9223372036854775807:=hl;refine(Any.utf8_ValidString L ⟨s.toArray⟩ w (by simpa[ByteArray.size]using hl') (hu.tabs ht)).mono ?_;rintro en w' ⟨rfl,hb⟩;refine⟨⟨_,rfl,fun Ω=>?_⟩,hb⟩;have e:Lib.validD s=(bO s).isNone:=sS s.length s 0;have e2:(⟨s.toArray⟩:ByteArray).data.toList=s:=rfl;rw[e2,e];exact .bool _
end Go.AL
end
section
namespace Go.Proofs
open Go.Proofs.Tryz
open Go.Shelf
def Tryz.lays160_ren:Go.Shelf.Ren:=⟨fun|160=>134|232=>183|231=>182|227=>184|234=>186|233=>185|236=>188|235=>187|228=>218|271=>220|151=>219|197=>180|120=>246|152=>245|260=>217|137=>193|119=>264|224=>265|225=>266|217=>224|266=>250|n=>n,fun|9=>9|4=>4|3=>3|5=>5|117=>179|116=>178|0=>0|124=>182|21=>21|105=>173|46=>228|119=>224|139=>227|138=>226|n=>n,fun|3=>0|4=>1|n=>n⟩
theorem Tryz.lays160:Go.Proofs.Lays.n160 prog Tryz.lays160_ren:={
 mixed:=by kernel_rfl
 f119:=Xt func264
 f120:=Xt func246
 f137:=Xt func193
 f151:=Xt func219
 f152:=Xt func245
 f160:=Xt func134
 f197:=Xt func180
 f217:=Xt func224
 f224:=Xt func265
 f225:=Xt func266
 f227:=Xt func184
 f228:=Xt func218
 f231:=Xt func182
 f232:=Xt func183
 f233:=Xt func185
 f234:=Xt func186
 f235:=Xt func187
 f236:=Xt func188
 f260:=Xt func217
 f266:=Xt func250
 f271:=Xt func220
 t0:=underlying0
 a0:=isAgg0
 z0:=sizeOf0
 v0:=zeroValue0
 t3:=underlying3
 a3:=isAgg3
 z3:=sizeOf3
 v3:=zeroValue3
 t4:=underlying4
 a4:=isAgg4
 z4:=sizeOf4
 v4:=zeroValue4
 t5:=underlying5
 a5:=isAgg5
 z5:=sizeOf5
 v5:=zeroValue5
 t9:=underlying9
 a9:=isAgg9
 z9:=sizeOf9
 v9:=zeroValue9
 t21:=underlying21
 a21:=isAgg21
 z21:=sizeOf21
 v21:=zeroValue21
 t46:=underlying228
 a46:=isAgg228
 z46:=sizeOf228
 v46:=zeroValue228
 t105:=underlying173
 a105:=isAgg173
 z105:=sizeOf173
 v105:=zeroValue173
 t116:=underlying178
 a116:=isAgg178
 z116:=sizeOf178
 t117:=underlying179
 a117:=isAgg179
 z117:=sizeOf179
 v117:=zeroValue179
 t119:=underlying224
 a119:=isAgg224
 z119:=sizeOf224
 t124:=underlying182
 a124:=isAgg182
 z124:=sizeOf182
 v124:=zeroValue182
 t138:=underlying226
 a138:=isAgg226
 z138:=sizeOf226
 v138:=zeroValue226
 t139:=underlying227
 a139:=isAgg227
 z139:=sizeOf227
 v139:=zeroValue227
 g3:=by kernel_rfl
 g4:=by kernel_rfl}
def Tryz.lays145_ren:Go.Shelf.Ren:=⟨fun|145=>189|220=>221|219=>247|217=>224|225=>266|224=>265|267=>267|266=>250|314=>285|n=>n,fun|9=>9|4=>4|59=>183|3=>3|5=>5|46=>228|146=>260|51=>239|n=>n,fun|1=>2|n=>n⟩
theorem Tryz.lays145:Go.Proofs.Lays.n145 prog Tryz.lays145_ren:={
 mixed:=by kernel_rfl
 f145:=Xt func189
 f217:=Xt func224
 f219:=Xt func247
 f220:=Xt func221
 f224:=Xt func265
 f225:=Xt func266
 f266:=Xt func250
 f267:=Xt func267
 f314:=Xt func285
 t3:=underlying3
 a3:=isAgg3
 z3:=sizeOf3
 v3:=zeroValue3
 t4:=underlying4
 a4:=isAgg4
 z4:=sizeOf4
 v4:=zeroValue4
 t5:=underlying5
 a5:=isAgg5
 z5:=sizeOf5
 v5:=zeroValue5
 t9:=underlying9
 a9:=isAgg9
 z9:=sizeOf9
 v9:=zeroValue9
 t46:=underlying228
 a46:=isAgg228
 z46:=sizeOf228
 v46:=zeroValue228
 t51:=underlying239
 a51:=isAgg239
 z51:=sizeOf239
 v51:=zeroValue239
 t59:=underlying183
 a59:=isAgg183
 z59:=sizeOf183
 v59:=zeroValue183
 t146:=underlying260
 a146:=isAgg260
 z146:=sizeOf260
 v146:=zeroValue260
 g1:=by kernel_rfl}
def Tryz.lays146_ren:Go.Shelf.Ren:=⟨fun|146=>190|221=>222|268=>248|138=>249|143=>225|195=>268|197=>180|218=>269|219=>247|260=>217|217=>224|225=>266|224=>265|267=>267|266=>250|314=>285|n=>n,fun|9=>9|31=>25|3=>3|4=>4|0=>0|105=>173|21=>21|5=>5|46=>228|119=>224|139=>227|138=>226|146=>260|51=>239|n=>n,fun|1=>2|3=>0|4=>1|n=>n⟩
theorem Tryz.lays146:Go.Proofs.Lays.n146 prog Tryz.lays146_ren:={
 mixed:=by kernel_rfl
 f138:=Xt func249
 f143:=Xt func225
 f146:=Xt func190
 f195:=Xt func268
 f197:=Xt func180
 f217:=Xt func224
 f218:=Xt func269
 f219:=Xt func247
 f221:=Xt func222
 f224:=Xt func265
 f225:=Xt func266
 f260:=Xt func217
 f266:=Xt func250
 f267:=Xt func267
 f268:=Xt func248
 f314:=Xt func285
 t0:=underlying0
 a0:=isAgg0
 z0:=sizeOf0
 v0:=zeroValue0
 t3:=underlying3
 a3:=isAgg3
 z3:=sizeOf3
 v3:=zeroValue3
 t4:=underlying4
 a4:=isAgg4
 z4:=sizeOf4
 v4:=zeroValue4
 t5:=underlying5
 a5:=isAgg5
 z5:=sizeOf5
 v5:=zeroValue5
 t9:=underlying9
 a9:=isAgg9
 z9:=sizeOf9
 v9:=zeroValue9
 t21:=underlying21
 a21:=isAgg21
 z21:=sizeOf21
 v21:=zeroValue21
 t31:=underlying25
 a31:=isAgg25
 z31:=sizeOf25
 v31:=zeroValue25
 t46:=underlying228
 a46:=isAgg228
 z46:=sizeOf228
 v46:=zeroValue228
 t51:=underlying239
 a51:=isAgg239
 z51:=sizeOf239
 v51:=zeroValue239
 t105:=underlying173
 a105:=isAgg173
 z105:=sizeOf173
 v105:=zeroValue173
 t119:=underlying224
 a119:=isAgg224
 z119:=sizeOf224
 t138:=underlying226
 a138:=isAgg226
 z138:=sizeOf226
 v138:=zeroValue226
 t139:=underlying227
 a139:=isAgg227
 z139:=sizeOf227
 v139:=zeroValue227
 t146:=underlying260
 a146:=isAgg260
 z146:=sizeOf260
 v146:=zeroValue260
 g1:=by kernel_rfl
 g3:=by kernel_rfl
 g4:=by kernel_rfl}
def Tryz.lays144_ren:Go.Shelf.Ren:=⟨fun|144=>195|143=>225|219=>247|217=>224|225=>266|224=>265|267=>267|266=>250|314=>285|n=>n,fun|9=>9|4=>4|3=>3|5=>5|46=>228|146=>260|51=>239|n=>n,fun|1=>2|n=>n⟩
theorem Tryz.lays144:Go.Proofs.Lays.n144 prog Tryz.lays144_ren:={
 mixed:=by kernel_rfl
 f143:=Xt func225
 f144:=Xt func195
 f217:=Xt func224
 f219:=Xt func247
 f224:=Xt func265
 f225:=Xt func266
 f266:=Xt func250
 f267:=Xt func267
 f314:=Xt func285
 t3:=underlying3
 a3:=isAgg3
 z3:=sizeOf3
 v3:=zeroValue3
 t4:=underlying4
 a4:=isAgg4
 z4:=sizeOf4
 v4:=zeroValue4
 t5:=underlying5
 a5:=isAgg5
 z5:=sizeOf5
 v5:=zeroValue5
 t9:=underlying9
 a9:=isAgg9
 z9:=sizeOf9
 v9:=zeroValue9
 t46:=underlying228
 a46:=isAgg228
 z46:=sizeOf228
 v46:=zeroValue228
 t51:=underlying239
 a51:=isAgg239
 z51:=sizeOf239
 v51:=zeroValue239
 t146:=underlying260
 a146:=isAgg260
 z146:=sizeOf260
 v146:=zeroValue260
 g1:=by kernel_rfl}
def Tryz.lays137_ren:Go.Shelf.Ren:=⟨fun|137=>193|217=>224|266=>250|n=>n,fun|9=>9|5=>5|3=>3|n=>n,fun|n=>n⟩
theorem Tryz.lays137:Go.Proofs.Lays.n137 prog Tryz.lays137_ren:={
 mixed:=by kernel_rfl
 f137:=Xt func193
 f217:=Xt func224
 f266:=Xt func250
 t3:=underlying3
 a3:=isAgg3
 z3:=sizeOf3
 v3:=zeroValue3
 t5:=underlying5
 a5:=isAgg5
 z5:=sizeOf5
 v5:=zeroValue5
 t9:=underlying9
 a9:=isAgg9
 z9:=sizeOf9
 v9:=zeroValue9}
def Tryz.lays197_ren:Go.Shelf.Ren:=⟨fun|197=>180|260=>217|n=>n,fun|9=>9|21=>21|3=>3|4=>4|5=>5|105=>173|119=>224|0=>0|46=>228|139=>227|138=>226|n=>n,fun|3=>0|4=>1|n=>n⟩
theorem Tryz.lays197:Go.Proofs.Lays.n197 prog Tryz.lays197_ren:={
 mixed:=by kernel_rfl
 f197:=Xt func180
 f260:=Xt func217
 t0:=underlying0
 a0:=isAgg0
 z0:=sizeOf0
 v0:=zeroValue0
 t3:=underlying3
 a3:=isAgg3
 z3:=sizeOf3
 v3:=zeroValue3
 t4:=underlying4
 a4:=isAgg4
 z4:=sizeOf4
 v4:=zeroValue4
 t5:=underlying5
 a5:=isAgg5
 z5:=sizeOf5
 v5:=zeroValue5
 t9:=underlying9
 a9:=isAgg9
 z9:=sizeOf9
 v9:=zeroValue9
 t21:=underlying21
 a21:=isAgg21
 z21:=sizeOf21
 v21:=zeroValue21
 t46:=underlying228
 a46:=isAgg228
 z46:=sizeOf228
 v46:=zeroValue228
 t105:=underlying173
 a105:=isAgg173
 z105:=sizeOf173
 v105:=zeroValue173
 t119:=underlying224
 a119:=isAgg224
 z119:=sizeOf224
 t138:=underlying226
 a138:=isAgg226
 z138:=sizeOf226
 v138:=zeroValue226
 t139:=underlying227
 a139:=isAgg227
 z139:=sizeOf227
 v139:=zeroValue227
 g3:=by kernel_rfl
 g4:=by kernel_rfl}
def Tryz.lays196_ren:Go.Shelf.Ren:=⟨fun|196=>212|259=>243|n=>n,fun|9=>9|4=>4|3=>3|5=>5|12=>12|119=>224|0=>0|46=>228|139=>227|138=>226|53=>211|n=>n,fun|3=>0|4=>1|n=>n⟩
theorem Tryz.lays196:Go.Proofs.Lays.n196 prog Tryz.lays196_ren:={
 mixed:=by kernel_rfl
 f196:=Xt func212
 f259:=Xt func243
 t0:=underlying0
 a0:=isAgg0
 z0:=sizeOf0
 v0:=zeroValue0
 t3:=underlying3
 a3:=isAgg3
 z3:=sizeOf3
 v3:=zeroValue3
 t4:=underlying4
 a4:=isAgg4
 z4:=sizeOf4
 v4:=zeroValue4
 t5:=underlying5
 a5:=isAgg5
 z5:=sizeOf5
 v5:=zeroValue5
 t9:=underlying9
 a9:=isAgg9
 z9:=sizeOf9
 v9:=zeroValue9
 t12:=underlying12
 a12:=isAgg12
 z12:=sizeOf12
 v12:=zeroValue12
 t46:=underlying228
 a46:=isAgg228
 z46:=sizeOf228
 v46:=zeroValue228
 t53:=underlying211
 a53:=isAgg211
 z53:=sizeOf211
 v53:=zeroValue211
 t119:=underlying224
 a119:=isAgg224
 z119:=sizeOf224
 t138:=underlying226
 a138:=isAgg226
 z138:=sizeOf226
 v138:=zeroValue226
 t139:=underlying227
 a139:=isAgg227
 z139:=sizeOf227
 v139:=zeroValue227
 g3:=by kernel_rfl
 g4:=by kernel_rfl}
end Go.Proofs
end
section
namespace Go.Proofs
open Go.Proofs.Tryz
open Go.Shelf
def Tryz.lays190_ren:Go.Shelf.Ren:=⟨fun|190=>229|125=>255|258=>254|128=>280|129=>257|302=>271|303=>272|304=>273|305=>274|306=>275|307=>276|308=>277|309=>278|310=>279|333=>286|329=>287|330=>288|334=>289|335=>290|336=>291|344=>292|n=>n,fun|31=>25|9=>9|3=>3|46=>228|0=>0|51=>239|53=>211|4=>4|183=>249|182=>248|131=>253|5=>5|218=>262|222=>266|228=>270|229=>88|n=>n,fun|n=>n⟩
theorem Tryz.lays190:Go.Proofs.Lays.n190 prog Tryz.lays190_ren:={
 mixed:=by kernel_rfl
 f125:=Xt func255
 f128:=Xt func280
 f129:=Xt func257
 f190:=Xt func229
 f258:=Xt func254
 f302:=Xt func271
 f303:=Xt func272
 f304:=Xt func273
 f305:=Xt func274
 f306:=Xt func275
 f307:=Xt func276
 f308:=Xt func277
 f309:=Xt func278
 f310:=Xt func279
 f329:=Xt func287
 f330:=Xt func288
 f333:=Xt func286
 f334:=Xt func289
 f335:=Xt func290
 f336:=Xt func291
 f344:=Xt func292
 t0:=underlying0
 a0:=isAgg0
 z0:=sizeOf0
 v0:=zeroValue0
 t3:=underlying3
 a3:=isAgg3
 z3:=sizeOf3
 v3:=zeroValue3
 t4:=underlying4
 a4:=isAgg4
 z4:=sizeOf4
 v4:=zeroValue4
 t5:=underlying5
 a5:=isAgg5
 z5:=sizeOf5
 v5:=zeroValue5
 t9:=underlying9
 a9:=isAgg9
 z9:=sizeOf9
 v9:=zeroValue9
 t31:=underlying25
 a31:=isAgg25
 z31:=sizeOf25
 v31:=zeroValue25
 t46:=underlying228
 a46:=isAgg228
 z46:=sizeOf228
 v46:=zeroValue228
 t51:=underlying239
 a51:=isAgg239
 z51:=sizeOf239
 v51:=zeroValue239
 t53:=underlying211
 a53:=isAgg211
 z53:=sizeOf211
 v53:=zeroValue211
 t131:=underlying253
 a131:=isAgg253
 z131:=sizeOf253
 v131:=zeroValue253
 t182:=underlying248
 a182:=isAgg248
 z182:=sizeOf248
 v182:=zeroValue248
 t183:=underlying249
 a183:=isAgg249
 z183:=sizeOf249
 v183:=zeroValue249
 t218:=underlying262
 a218:=isAgg262
 z218:=sizeOf262
 v218:=zeroValue262
 t222:=underlying266
 a222:=isAgg266
 z222:=sizeOf266
 v222:=zeroValue266
 t228:=underlying270
 a228:=isAgg270
 z228:=sizeOf270
 v228:=zeroValue270
 t229:=underlying88
 a229:=isAgg88
 z229:=sizeOf88
 v229:=zeroValue88}
def Tryz.lays194_ren:Go.Shelf.Ren:=⟨fun|194=>202|n=>n,fun|31=>25|9=>9|3=>3|4=>4|0=>0|n=>n,fun|n=>n⟩
theorem Tryz.lays194:Go.Proofs.Lays.n194 prog Tryz.lays194_ren:={
 mixed:=by kernel_rfl
 f194:=Xt func202
 t0:=underlying0
 a0:=isAgg0
 z0:=sizeOf0
 v0:=zeroValue0
 t3:=underlying3
 a3:=isAgg3
 z3:=sizeOf3
 v3:=zeroValue3
 t4:=underlying4
 a4:=isAgg4
 z4:=sizeOf4
 v4:=zeroValue4
 t9:=underlying9
 a9:=isAgg9
 z9:=sizeOf9
 v9:=zeroValue9
 t31:=underlying25
 a31:=isAgg25
 z31:=sizeOf25
 v31:=zeroValue25}
def Tryz.lays172_ren:Go.Shelf.Ren:=⟨fun|172=>164|244=>207|245=>208|247=>237|279=>238|280=>239|281=>240|282=>241|287=>261|316=>262|171=>94|205=>263|321=>283|322=>284|243=>158|246=>205|283=>233|284=>234|285=>235|286=>236|129=>257|317=>256|318=>258|319=>259|320=>260|337=>281|338=>282|n=>n,fun|9=>9|3=>3|75=>155|76=>156|4=>4|5=>5|167=>216|37=>150|0=>0|85=>217|2=>2|168=>219|53=>211|175=>241|46=>228|210=>244|127=>198|145=>259|143=>257|21=>21|171=>210|173=>214|212=>238|51=>239|20=>20|213=>240|232=>268|233=>269|80=>158|n=>n,fun|15=>4|16=>5|17=>3|18=>6|19=>7|n=>n⟩
theorem Tryz.lays172:Go.Proofs.Lays.n172 prog Tryz.lays172_ren:={
 mixed:=by kernel_rfl
 f129:=Xt func257
 f171:=Xt func94
 f172:=Xt func164
 f205:=Xt func263
 f243:=Xt func158
 f244:=Xt func207
 f245:=Xt func208
 f246:=Xt func205
 f247:=Xt func237
 f279:=Xt func238
 f280:=Xt func239
 f281:=Xt func240
 f282:=Xt func241
 f283:=Xt func233
 f284:=Xt func234
 f285:=Xt func235
 f286:=Xt func236
 f287:=Xt func261
 f316:=Xt func262
 f317:=Xt func256
 f318:=Xt func258
 f319:=Xt func259
 f320:=Xt func260
 f321:=Xt func283
 f322:=Xt func284
 f337:=Xt func281
 f338:=Xt func282
 t0:=underlying0
 a0:=isAgg0
 z0:=sizeOf0
 v0:=zeroValue0
 t2:=underlying2
 a2:=isAgg2
 z2:=sizeOf2
 v2:=zeroValue2
 t3:=underlying3
 a3:=isAgg3
 z3:=sizeOf3
 v3:=zeroValue3
 t4:=underlying4
 a4:=isAgg4
 z4:=sizeOf4
 v4:=zeroValue4
 t5:=underlying5
 a5:=isAgg5
 z5:=sizeOf5
 v5:=zeroValue5
 t9:=underlying9
 a9:=isAgg9
 z9:=sizeOf9
 v9:=zeroValue9
 t20:=underlying20
 a20:=isAgg20
 z20:=sizeOf20
 v20:=zeroValue20
 t21:=underlying21
 a21:=isAgg21
 z21:=sizeOf21
 v21:=zeroValue21
 t37:=underlying150
 a37:=isAgg150
 z37:=sizeOf150
 v37:=zeroValue150
 t46:=underlying228
 a46:=isAgg228
 z46:=sizeOf228
 v46:=zeroValue228
 t51:=underlying239
 a51:=isAgg239
 z51:=sizeOf239
 v51:=zeroValue239
 t53:=underlying211
 a53:=isAgg211
 z53:=sizeOf211
 v53:=zeroValue211
 t75:=underlying155
 a75:=isAgg155
 z75:=sizeOf155
 v75:=zeroValue155
 t76:=underlying156
 a76:=isAgg156
 z76:=sizeOf156
 v76:=zeroValue156
 t85:=underlying217
 a85:=isAgg217
 z85:=sizeOf217
 v85:=zeroValue217
 t127:=underlying198
 a127:=isAgg198
 z127:=sizeOf198
 v127:=zeroValue198
 t143:=underlying257
 a143:=isAgg257
 z143:=sizeOf257
 v143:=zeroValue257
 t145:=underlying259
 a145:=isAgg259
 z145:=sizeOf259
 v145:=zeroValue259
 t167:=underlying216
 a167:=isAgg216
 z167:=sizeOf216
 v167:=zeroValue216
 t168:=underlying219
 a168:=isAgg219
 z168:=sizeOf219
 v168:=zeroValue219
 t171:=underlying210
 a171:=isAgg210
 z171:=sizeOf210
 v171:=zeroValue210
 t173:=underlying214
 a173:=isAgg214
 z173:=sizeOf214
 v173:=zeroValue214
 t175:=underlying241
 a175:=isAgg241
 z175:=sizeOf241
 v175:=zeroValue241
 t210:=underlying244
 a210:=isAgg244
 z210:=sizeOf244
 v210:=zeroValue244
 t212:=underlying238
 a212:=isAgg238
 z212:=sizeOf238
 v212:=zeroValue238
 t213:=underlying240
 a213:=isAgg240
 z213:=sizeOf240
 t232:=underlying268
 a232:=isAgg268
 z232:=sizeOf268
 v232:=zeroValue268
 t233:=underlying269
 a233:=isAgg269
 z233:=sizeOf269
 v233:=zeroValue269
 g15:=by kernel_rfl
 g16:=by kernel_rfl
 g17:=by kernel_rfl
 g18:=by kernel_rfl
 g19:=by kernel_rfl}
def Tryz.sorted200_ren:Go.Shelf.Ren:=⟨fun|6=>200|8=>228|9=>229|11=>253|13=>255|12=>254|23=>280|24=>257|14=>271|15=>272|16=>273|17=>274|18=>275|19=>276|20=>277|21=>278|22=>279|25=>286|26=>287|27=>288|28=>289|29=>290|30=>291|31=>292|n=>n,fun|26=>9|28=>196|24=>25|0=>0|3=>3|37=>228|48=>239|50=>211|4=>4|40=>249|39=>248|45=>253|5=>5|9=>9|51=>262|55=>266|57=>270|58=>88|33=>46|n=>n,fun|n=>n⟩
theorem Tryz.sorted200:Go.Proofs.SlLaysZ.n6 prog Tryz.sorted200_ren:={
 mixed:=by kernel_rfl
 f6:=⟨Tryz.f200.name,by decide,Xt func200⟩
 f8:=⟨Tryz.f228.name,by decide,Xt func228⟩
 f11:=⟨Tryz.f253.name,by decide,Xt func253⟩
 t0:=underlying0
 a0:=isAgg0
 z0:=sizeOf0
 v0:=zeroValue0
 t24:=underlying25
 a24:=isAgg25
 z24:=sizeOf25
 v24:=zeroValue25
 t26:=underlying9
 a26:=isAgg9
 z26:=sizeOf9
 v26:=zeroValue9
 t28:=underlying196
 a28:=isAgg196
 z28:=sizeOf196
 v28:=zeroValue196
 i26:=by kernel_rfl}
end Go.Proofs
end
section
namespace Go.Proofs
open Go.RowKit Go.Shelf Go.AL
variable [Tabs]
attribute [local go_sem] Oper.semAt_some
set_option maxRecDepth 100000 in
set_option maxHeartbeats 2000000 in
theorem Tryz.values1(F:Fence)(n:Nat)(h7:F.fn 230)(hro:F.round=none)(hn:1<=n)(l Bs Bo b off len cap:Nat)(zs:List Str)(hreach:len<=maxLen)(J:List Str->World->Prop)(hBl:∀pre W,J pre W->W.cell? ⟨Bs,Bo,none⟩=some (.slice (some ⟨b,off,none⟩) len cap)/\∀j,j<len->W.cell? ⟨b,off+j,none⟩=some (encStr (zs[j]?.getD [])))
 (hY:∀pre x W,J pre W->pre.length<len->YieldAt F (n-1) Tryz.prog l #[encStr x] W fun e W'=>e=.returned (.bool true)/\J (pre++[x]) W')
 (W:World)(h0:J [] W) :
  CallsIn F n Tryz.prog 230 #[.func (.yield l) #[] #[],.pointer (some ⟨Bs,Bo,none⟩)] W fun e W'=>(∃v,e=.returned v)/\∃ys,ys=uz (fun j=>zs[j]?.getD []) len/\J ys W':=by
 obtain⟨hBs,hc⟩:=hBl _ _ h0;refine callsIn_of_wp Tryz.func230 rfl h7 ?_ hro;simp only[Tryz.ntmps230,P7,N7,Na,Nat.reduceAdd,Nat.reduceSub,P9,Pa,Pq,Pe,Nk,NY]
 gi_wp2
 gi_loopw [7] (fun i wr=>∃k:Nat,k<=len/\i=.int .i64 k/\J (uz (fun j=>zs[j]?.getD []) k) wr)
  (fun i _=>len-(intOf i).toNat)
 case atStart=>exact⟨0,Nt _,rfl,h0⟩
 case round=>
  obtain⟨k,hk,rfl,hJs⟩:=hrel;have hcx:k<len->wr.cell? ⟨b,off+k,none⟩=some (encStr (zs[k]?.getD [])):=fun h=>(hBl _ _ hJs).2 k h;by_cases hlt:k<len
  ·obtain⟨fn,tmps,assign,body,hy,hR⟩:=hY _ (zs[k]?.getD []) wr hJs (by rw[yw];exact hlt);have hcx':=hcx hlt;have hsmall:(k:Int)+1<=9223372036854775807:=by unfold maxLen at hreach;omega
   gi_wp2
   refine hR.mono ?_;rintro e W3 ⟨rfl,hJ3⟩
   gi_wp2
   go_roundw
   case rel=>exact⟨k+1,by omega,by simp,by rw[Eo];exact hJ3⟩
   case measure=>simp[intOf];omega
  ·obtain rfl:k=len:=by omega
   gi_wp2
   go_end0
   exact⟨⟨_,rfl⟩,_,rfl,hJs⟩
set_option maxRecDepth 100000 in
set_option maxHeartbeats 1000000 in
theorem Tryz.values1_nil(F:Fence)(n:Nat)(h7:F.fn 230)(hro:F.round=none)(l Bs Bo cap:Nat)(a:Option Addr)(J:List Str->World->Prop)(W:World)(hBs:W.cell? ⟨Bs,Bo,none⟩=some (.slice a 0 cap))(h0:J [] W) :
  CallsIn F n Tryz.prog 230 #[.func (.yield l) #[] #[],.pointer (some ⟨Bs,Bo,none⟩)] W fun e W'=>(∃v,e=.returned v)/\J [] W':=by
 refine callsIn_of_wp Tryz.func230 rfl h7 ?_ hro;simp only[Tryz.ntmps230,P7,N7,Na,Nat.reduceAdd,Nat.reduceSub,P9,Pa,Pq,Pe,Nk,NY]
 gi_wp2
 gi_loopw [7] (fun i wr=>i=.int .i64 0/\J [] wr) (fun _ _=>0)
 case atStart=>exact⟨rfl,h0⟩
 case round=>
  obtain⟨rfl,hJs⟩:=hrel
  gi_wp2
  go_end0
  exact⟨⟨_,rfl⟩,hJs⟩
theorem Tryz.valuesL:wI Tryz.prog 230:=by
 intro w b o sv zs hz hc hs l J W a1 a2 a3 a4 a5;have hb:=b7 hc;rcases hs with⟨⟨a,cap,rfl⟩,rfl⟩|⟨g,off,cap,rfl,hg,hcs⟩
 ·refine(Tryz.values1_nil Fence.wide 2 trivial rfl l b o cap a J W ((a1.cell (p:=⟨b,o,none⟩) hb).trans hc) a5).mono ?_;rintro e W' ⟨h1,h2⟩;exact⟨h1,[],rfl,h2⟩
 ·refine(Tryz.values1 Fence.wide 2 trivial rfl (by omega) l b o g off zs.length cap zs hz J (fun pre W1 hJ=>⟨((a3 _ _ hJ).cell (p:=⟨b,o,none⟩) hb).trans hc,fun j hj=>((a3 _ _ hJ).cell (p:=⟨g,off+j,none⟩) hg).trans (hcs j hj)⟩)
   (fun pre x W1 h1 h2=>(a4 pre x W1 h1 h2).mono fun e W' h=>⟨h.1,h.2.1⟩) W a5).mono ?_
  rintro e W' ⟨h1,ys,h2,h3⟩;exact⟨h1,ys,by rw[h2,Hg],h3⟩
end Go.Proofs
end
section
namespace Go.AL.Seat
open Go Go.AL Go.Proofs Go.Shelf Go.Pd
variable [Tabs]
theorem Mp:SortL Tryz.prog Tryz.sorted200_ren:=
 ⟨Tryz.sorted200,⟨fun blk off cap ss W hH hblk hsz=>callsIn_wide.2 (Any.slices_Sort_string Tryz.lays190 blk off cap ss W hH hblk hsz),fun p cap W=>callsIn_wide.2 (Any.slices_Sort_string_none Tryz.lays190 p cap W)⟩,enters_of Tryz.func229 (by kernel_rfl) rfl⟩
theorem sT:ae Tryz.prog 200 (nR 230):=
 uB Mp rfl (enters_of Tryz.func230 (by kernel_rfl) rfl) Tryz.valuesL (aw.mk' Tryz.func200 (by kernel_rfl))
theorem qM:ae Tryz.prog 202 nS:=uC Tryz.lays194 rfl (aw.mk' Tryz.func202 (by kernel_rfl))
theorem yW:ae Tryz.prog 164 (p1 .str fun t=>⟨some (kz t),none,.tup [.int .i64 (im t),.nilif],[]⟩):=By Tryz.lays172 rfl (aw.mk' Tryz.func164 (by kernel_rfl))
end Go.AL.Seat
end
section
namespace Go.AL.Seat
open Go Go.AL Go.Proofs Go.Shelf Go.Pd
class SeatLaid[Tabs]:Prop where
 max:∃m:Int,Tabs.tab 2 0 (.int .i64 m)
 utf:p8 0 1
variable [Tabs] [SeatLaid]
theorem yX:ae Tryz.prog 134 (p2 .str .str fun a b=>⟨some (b=qX),none,.str (nD a),[]⟩):=BE Tryz.lays160 (by kernel_rfl) rfl (aw.mk' Tryz.func134 (by kernel_rfl))
theorem K7:ae Tryz.prog 189 (p2 .str .str fun a b=>⟨some (b=[45]/\a.length<4294967281),none,.tup [.str (aU a),.str (eI a),.bool (jm a)],[]⟩):=
 let ⟨_,hm⟩:=SeatLaid.max;EE Tryz.lays145 hm rfl (aw.mk' Tryz.func189 (by kernel_rfl))
theorem vk:ae Tryz.prog 190 (p2 .str .str fun a b=>⟨some (b=[46]/\a.length<4294967281),none,.lst .str (splitB 46 a) none,[]⟩):=
 let ⟨_,hm⟩:=SeatLaid.max;yT Tryz.lays146 (by kernel_rfl) hm rfl (aw.mk' Tryz.func190 (by kernel_rfl))
theorem wY:ae Tryz.prog 195 (p2 .str .str fun a b=>⟨some (b.length=1),none,.bool (decide (b.getD 0 0∈a)),[]⟩):=sQ Tryz.lays144 rfl (aw.mk' Tryz.func195 (by kernel_rfl))
theorem uF:ae Tryz.prog 193 (p2 .str (.int .u8) fun a c=>.ret (.int .i64 (pZ a c))):=qZ Tryz.lays137 rfl (aw.mk' Tryz.func193 (by kernel_rfl))
theorem sU:ae Tryz.prog 180 (p1 .str fun s=>.ret (.tup [.int .i32 ((iG s).1:Int),.int .i64 ((iG s).2:Int)])):=q9 Tryz.lays197 SeatLaid.utf rfl (aw.mk' Tryz.func180 (by kernel_rfl))
theorem EF:ae Tryz.prog 212 (p1 .str fun s=>.ret (.bool (bO s).isNone)):=yV Tryz.lays196 SeatLaid.utf rfl (aw.mk' Tryz.func212 (by kernel_rfl))
end Go.AL.Seat
end
section
namespace Go.Proofs.YtdmbjejhifjhbaaGreatDoor.Join
open Go.AL Go.AL.Seat Go.ChangeShapes Go.WideShapes Go.RowKit Go.Lib Go.Shelf
set_option maxRecDepth 1000000
theorem own:ownKnob Tryz.prog.godebug=none:=by kernel_rfl
theorem K8:laidOutB Tryz.prog=true:=by kernel_rfl
theorem undB:Tryz.prog.underlying 4=some .bool:=by kernel_rfl
theorem undI:Tryz.prog.underlying 3=some (.int .i64):=by kernel_rfl
theorem undS:Tryz.prog.underlying 9=some .string:=by kernel_rfl
theorem Mq:Tryz.prog.readableRec 9=true:=by kernel_rfl
theorem vl:22<Tryz.prog.types.size:=Xo (by kernel_rfl)
def laid:List (String×DataW Unit):=Rows.parseTypesRow.laid
theorem Mr:(Rows.laid_unicode_utf8_acceptRanges:DataW Unit)=acceptData:=by kernel_rfl
theorem Ms{W:World}(h:W.ShapedOpen Tryz.prog):∃m,W.cell? ⟨2,0,none⟩=some (.int .i64 m):=
 cell_of_shapedOpen_int (t:=3) (zero:=#[.int .i64 0]) h (Xo (by kernel_rfl)) (by kernel_rfl) rfl (by kernel_rfl) (by kernel_rfl) undI
theorem jq{W:World}(h:laidMet Tryz.prog laid W):Utf8Tabs 0 1 W:=
 utf8Tabs_of_readsT (ρ:=Tryz.lays196_ren) (U8Types.of196 Tryz.lays196) ⟨by kernel_rfl,by kernel_rfl,by kernel_rfl,by kernel_rfl,by kernel_rfl,by kernel_rfl,by kernel_rfl⟩
  (Pinned.utf8First_eq ▸ laidMet.reads h (by simp[laid,Rows.parseTypesRow,Rows.laid_unicode_utf8_first])) (Mr ▸ laidMet.reads h (by simp[laid,Rows.parseTypesRow]))
theorem HH{W:World}(h:laidMet Tryz.prog laid W)(hs:W.ShapedOpen Tryz.prog):@SeatLaid (mc W):=by
 letI:Tabs:=mc W
 obtain⟨m,hm⟩:=Ms hs;obtain⟨u1,u2⟩:=jq h;exact⟨⟨m,by decide,hm⟩,fun c hc=>⟨by decide,u1 c hc⟩,fun i hi=>⟨⟨by decide,(u2 i hi).1⟩,by decide,(u2 i hi).2⟩⟩
def z32:List Int:=[0,1,28,2,29,14,24,3,30,22,20,15,25,17,4,8,31,27,13,23,21,19,16,7,26,12,18,6,11,5,10,9]
def z64:List Int:=[0,1,56,2,57,49,28,3,61,58,42,50,38,29,17,4,62,47,59,36,45,43,51,22,53,39,33,30,24,18,12,5,63,55,48,27,60,41,37,16,46,35,44,21,52,32,23,11,54,26,40,15,34,20,31,10,25,14,19,9,13,8,7,6]
def zPow:List Int:=[1,10,100,1000,10000,100000,1000000,10000000,100000000,1000000000,10000000000,100000000000,1000000000000,10000000000000,100000000000000,1000000000000000,10000000000000000,100000000000000000,1000000000000000000,10000000000000000000]
def zAcc:List Int:=[128,191,160,191,128,159,144,191,128,143,0,0,0,0,0,0,0,0,0,0,0,0,0,0,0,0,0,0,0,0,0,0]
def LH:List Int:=List.map Int.ofNat Pinned.utf8FirstZ
noncomputable def mW(os:Os):World:=
 let N:=(World.settled Tryz.prog os).heap.size
 let w0:=World.holding Tryz.prog os ⟨#[.cells #[.string ⟨#[118,97,108,117,101,32,111,117,116,32,111,102,32,114,97,110,103,101]⟩] 259,.cells #[.string ⟨#[105,110,118,97,108,105,100,32,115,121,110,116,97,120]⟩] 259],#[],[]⟩
 let put (h:Array Obj) (g:Nat) (cs:Array Value):Array Obj:=h.modify g fun
  |.cells _ t frozen=>.cells cs t frozen
  |o=>o
 let h0:=put (put w0.heap 4 #[.iface 257 (.pointer (some ⟨N+1,0,none⟩))]) 5 #[.iface 257 (.pointer (some ⟨N,0,none⟩))]
 let h1:=put (put (put h0 3 (zPow.map (Value.int .u64)).toArray) 6 (z32.map (Value.int .u8)).toArray) 7 (z64.map (Value.int .u8)).toArray
 let h2:=put (put h1 0 (LH.map (Value.int .u8)).toArray) 1 (zAcc.map (Value.int .u8)).toArray
 {w0 with heap:=h2}
noncomputable abbrev N0:Nat:=(World.settled Tryz.prog default).heap.size
theorem LI(os:Os)(args:Array Value):LaidIn Tryz.prog ((mW os).forCall (fun _ _=>0) ⟨#[],args,[]⟩).memory laid [6,7,3,1,5,N0,4,N0+1,0]:=
 LaidIn.of_run [6,7,3,1,5,N0,4,N0+1,0] 10 (by kernel_rfl) (by kernel_rfl) (by kernel_rfl) (by kernel_rfl)
theorem HI(os:Os)(args:Array Value):laidMet Tryz.prog laid ((mW os).forCall (fun _ _=>0) ⟨#[],args,[]⟩).memory:=(LI os args).met
end Go.Proofs.YtdmbjejhifjhbaaGreatDoor.Join
end
section
namespace Go.AL
variable [Tabs]
open Go.Proofs Go.Shelf Go.RowKit
variable {P:Program} {ρ:Ren}
theorem uG{w:World}(t ty e:TypeId)(i:TypeInfo)(ht:P.underlying t=some (.slice e))(hi:P.info? e=some i)(hz:i.zero=some (.int .u8 0))
 (hsize:i.size=1)(hby:i.bytes=1)(v:Value)(n:Nat)(xs:List Value)(hown:w.ownsRowF 0 e 1 v n xs)(a:Addr)(c:Nat)(x:Value)
 (hx:w.cell? a=some x)(ho:x.oneCell'=true)(hbytes:n+1<=140737488355328){v':Value}{w':World}(hr:(Builtin.append_ #[t,t] ty #[v,.slice (some a) 1 c]).run P w=.ok v' w') :
  ∀k,v'.ownBlock=some k->v.ownBlock=some k∨w.heap.size<=k:=by
 intro k hk;have h63:n+1<=maxLen:=by unfold maxLen;omega
 have hnews:∀(j:Nat) u,([x]:List Value)[j]?=some u->w.cell? (a.add j)=some u:=by
  intro j u hj
  match j,hj with
  |0,hj=>simp at hj;subst hj;simpa[Addr.add]using hx
 have h1:∀u∈[x],u.oneCell'=true:=by intro u hu;simp at hu;subst hu;exact ho
 rcases hown.2 with⟨rfl,rfl⟩|⟨g,cap,cur,fz,rfl,hbg,hg,hfz,hnc,hcm,hcs,htake⟩
 ·obtain⟨v2,w2,r1,r2,_,_⟩:=run_append_own (P:=P) w w.heap.size t ty e i (.int .u8 0) 1 1 ht hi hz hsize hby rfl (by decide) (.slice none 0 0) 0 xs ⟨hown.1,.inl ⟨rfl,rfl⟩⟩ a 1 c [x] rfl hnews h1 h63 (by omega) (Nf _);rw[hr]at r1;cases r1;exact .inr (r2.lt k hk).1
 ·have hcs':cur.size=cap:=by simpa using hcs
  by_cases hroom:n+1<=cap
  ·have r1:=run_append_roomF (P:=P) w t ty e i ht hi g n cap cur fz hg (by rw[hsize];simpa using hfz) a 1 c [x] (by rw[hsize];rfl) hnews h1 hroom (by rw[hsize];simp;omega);rw[hr]at r1;cases r1;exact .inl hk
  ·have hxl:xs.length=n:=by simpa using hown.1
   have holds:∀j u,xs[j]?=some u->w.cell? ((⟨g,0,none⟩:Addr).add j)=some u:=hown.cells (g:=g) rfl;have r1:=run_append_grow (P:=P) w t ty e i (.int .u8 0) ht hi hz ⟨g,0,none⟩ n cap xs (by rw[hsize];simpa using hxl) holds a 1 c [x] (by rw[hsize];rfl) hnews (by omega) (by unfold maxLen at h63;omega) (by rw[hby];exact PK (by omega) (by omega));rw[hr]at r1;cases r1;cases hk;exact .inr (Nf _)
theorem nW{ops:Array Oper}{rest:List Oper}{o:Oper}{a:Act}{w:World}{Q:Exit->Act->World->Prop}(hgd:o.guard=none)(sl x:Operand)(t:TypeId)
 (ho:o.op=.call {callee:=.builtin .append,args:=#[sl,x],argTypes:=#[t,t]})
 (e:TypeId)(i:TypeInfo)(ht:P.underlying t=some (.slice e))(hi:P.info? e=some i)(hz:i.zero=some (.int .u8 0))(hsize:i.size=1)(hby:i.bytes=1)
 (v:Value)(n:Nat)(xs:List Value)(hs:a.eval sl=v)(hown:w.ownsRowF 0 e 1 v n xs)(ad:Addr)(c:Nat)(y:Value)(hx:a.eval x=.slice (some ad) 1 c)(hc:w.cell? ad=some y)(h1:y.oneCell'=true)
 (hbytes:n+1<=140737488355328)
 (h:∀v' w',w'.ownsRowF 0 e 1 v' (n+1) (xs++[y])->w.grownBy w' v.ownBlock->(∀k,v'.ownBlock=some k->v.ownBlock=some k∨w.heap.size<=k)->wpList P ops Q rest (a.put o.dst v') w'):wpList P ops Q (o::rest) a w:=by
 refine wpList_plain hgd fun K hK=>?_
 have hnews:∀(j:Nat) u,([y]:List Value)[j]?=some u->w.cell? (ad.add j)=some u:=by
  intro j u hj
  match j,hj with
  |0,hj=>simp at hj;subst hj;simpa[Addr.add]using hc
 obtain⟨v',w',hr,h2,h3,h4⟩:=run_append_ownF (P:=P) w 0 t o.type e i (.int .u8 0) 1 1 ht hi hz hsize hby rfl (by decide) v n xs hown ad 1 c [y] rfl hnews (by intro u hu;simp at hu;subst hu;exact h1) (by unfold maxLen;omega) (by omega) (Nt _);have hw:=uG t o.type e i ht hi hz hsize hby v n xs hown ad c y hc h1 hbytes hr;unfold Oper.wp execOp;simp only[ho,resolve,invoke,builtin,NA,NN,Nh,List.map_toArray,Nj,P6,hs,hx,hr];exact hK _ _ (h v' w' h2 h3 hw)
structure WB(P:Program)(ρ:Ren):Prop where
 mixed:P.follows .mixedOrders=true
 f167:P.funcs[ρ.f 167]?=some (Body.n167 ρ)
 t4:P.underlying (ρ.t 4)=some (TypeDesc.bool)
 a4:∀w,(isAgg (ρ.t 4)).run P w=.ok false w
 z4:∀w,(Go.sizeOf (ρ.t 4)).run P w=.ok 1 w
 v4:∀w,(zeroValue (ρ.t 4)).run P w=.ok (Value.bool false) w
set_option maxHeartbeats 2000000 in
set_option maxRecDepth 100000 in
theorem uH(L:WL P ρ)(B:WB P ρ)(C:CC P ρ)(X:Builder.Extra P ρ)(b:Nat)(g:Option Nat)(l:Str)(c:UInt8)(w:World)(h:jb w (ρ.t 72) (ρ.t 5) b g l)(hlen:l.length+1<=140737488355328) :
  Calls P (ρ.f 167) #[.pointer (some ⟨b,0,none⟩),.int .u8 (c.toNat:Int)] w fun e w'=>e=.returned .nilIface/\But w w' b g/\
   ∃g',jb w' (ρ.t 72) (ρ.t 5) b g' (l++[c])/\∀k,g'=some k->g=some k∨w.heap.size<=k:=by
 obtain⟨i0,hi,hz0,hz1,hz2⟩:=info_parts X.infoByte;have mixed:=L.mixed;have t72:=L.t72;have a72:=L.a72;have z72:=L.z72;have v72:=L.v72;have u72:=Ny L.t72;have t70:=L.t70;have a70:=L.a70;have z70:=L.z70;have v70:=L.v70;have u70:=Ny L.t70;have t37:=L.t37;have a37:=L.a37;have z37:=L.z37;have v37:=L.v37;have u37:=Ny L.t37;have t4:=B.t4;have a4:=B.a4;have z4:=B.z4;have v4:=B.v4;have u4:=Ny B.t4;have t9:=L.t9;have a9:=L.a9;have z9:=L.z9;have v9:=L.v9;have u9:=Ny L.t9;have t5:=X.t5;have a5:=X.a5;have z5:=X.z5;have v5:=X.v5;have u5:=Ny X.t5;have e240:=C.enters
 go_enter B.f167,Body.n167_ntmps ρ
 go_wp2_with (go_at_fn (ρ.f 240);refine(nA C b g l _ h).mono ?_)
 rintro e w1 ⟨rfl,hb1,v,hvg,hbk,hown,hne,hem⟩;have c0:w1.cell? ⟨b,0,none⟩=some (.pointer (some ⟨b,0,none⟩)):=by rw[O0 hbk];rfl
 have c1:w1.cell? ⟨b,1,none⟩=some v:=by rw[O0 hbk];rfl
 have hlt:b<w1.heap.size:=(Ot.1 hbk).1
 go_wp2_with (at_builtin;refine nW rfl _ _ (ρ.t 37) rfl (ρ.t 5) i0 L.t37 hi hz0 hz1 hz2 _ _ _ rfl (hown.alloc _) ⟨w1.heap.size,0,none⟩ 1 (.int .u8 (c.toNat:Int)) rfl ?c3 rfl ?c4 ?_)
 case c3=>simp
 case c4=>omega
 intro v' w2 hown' hgrow hwh;have hb2:w2.heap[b]?=some (.cells #[.pointer (some ⟨b,0,none⟩),v] (ρ.t 72) (0,0)):=by rw[hgrow.block b (by simp;omega) (fun e=>hne (hvg ▸ e.symm)),Lib.alloc_old w1 _ b hlt];exact hbk
 have d0:w2.cell? ⟨b,0,none⟩=some (.pointer (some ⟨b,0,none⟩)):=by rw[O0 hb2];rfl
 have d1:w2.cell? ⟨b,1,none⟩=some v:=by rw[O0 hb2];rfl
 have f1:w2.frozen? ⟨b,1,none⟩=false:=Qb hb2 1
 obtain⟨ao,n',cap,rfl⟩:∃ao n' cap,v'=.slice ao n' cap:=by
  rcases hown'.2 with⟨hv,_⟩|⟨g,cap,cur,fz,hv,_⟩
  ·exact⟨_,_,_,hv⟩
  ·exact⟨_,_,_,hv⟩
 go_wp2
 go_ret
 have hcat:Lib.byteCells l++[.int .u8 (c.toNat:Int)]=Lib.byteCells (l++[c]):=by simp[Lib.byteCells]
 have hA:Lib.BuilderAtF (ρ.t 72) (ρ.t 5) 0 b (.pointer (some ⟨b,0,none⟩)) (Lib.byteCells (l++[c])) (w2.setCell ⟨b,1,none⟩ (.slice ao n' cap)):=
  Lib.BuilderAtF.put (T:=(ρ.t 72)) (e:=(ρ.t 5)) (Nt _) hb2 (bs':=Lib.byteCells (l++[c])) (by rw[<-hcat,N5,Of,Nc];exact hown') X.neB5
 have hbn:But w1 w2 b g:=⟨hgrow.os,hgrow.tape,hgrow.output,by have:=hgrow.size;simp at this;omega,fun k h1 h2 h3=>by
  rw[hgrow.block k (by simp;omega) (fun e=>h3 (hvg ▸ e.symm)),Lib.alloc_old w1 _ k h1]⟩
 have hbw:But w w2 b g:=⟨hbn.os.trans hb1.os,hbn.tape.trans hb1.tape,hbn.output.trans hb1.output,NG hb1.size hbn.size,fun k h1 h2 h3=>(hbn.block k (Pl h1 hb1.size) h2 h3).trans (hb1.block k h1 h2 h3)⟩;refine⟨rfl,hbw.set 1 _,?_⟩;obtain⟨_,v2,k1,k2,k3⟩:=hA
 have hv2:v2=.slice ao n' cap:=by
  have e1:(w2.setCell ⟨b,1,none⟩ (.slice ao n' cap)).cell? ⟨b,1,none⟩=some v2:=by rw[O0 k1];rfl
  have e3:(w2.setCell ⟨b,1,none⟩ (.slice ao n' cap)).cell? ⟨b,1,none⟩=some (.slice ao n' cap):=by simp[World.cell?,World.setCell,hb2,Oj]
  rw[e3]at e1;exact(O1 e1).symm
 subst hv2;refine⟨_,⟨_,_,k1,.inr rfl,rfl,k3,by rwa [Of]at k2,fun e=>absurd e (by simp)⟩,fun k hk=>?_⟩;rcases hwh k hk with h'|h'
 ·exact .inl (hvg ▸ h')
 ·exact .inr (NG hb1.size (NG (by simp) h'))
theorem r6(L:WL P ρ)(B:WB P ρ)(C:CC P ρ)(X:Builder.Extra P ρ)(l:Str)(z:Int)(hz:0<=z/\z<256)(hlen:l.length+1<=140737488355328) :
  ax P (ρ.f 167) [.bptr 900,.int .u8 z] [(900,.bld (ρ.t 72) (ρ.t 5) l)] ⟨some ((0<=z/\z<256)/\l.length+1<=140737488355328),none,.nilif,[(900,.bld (ρ.t 72) (ρ.t 5) (l++[UInt8.ofNat z.toNat]))]⟩:=by
 intro w pub e vs hp ht hv hs hd hi;obtain⟨v1,v2,rfl,h1,h2⟩:=VL.two_inv hv;obtain⟨b,g,he,rfl⟩:=h1.bptr_inv;have he:e 900=some (.bld b g):=he
 have hv2:v2=.int .u8 ((UInt8.ofNat z.toNat).toNat:Int):=by
  have e:((UInt8.ofNat z.toNat).toNat:Int)=z:=by rw[UInt8.toNat_ofNat_of_lt' (by show z.toNat<256;omega)];omega
  rw[e];cases h2 with|int _ _ _ _=>rfl
 subst hv2;obtain⟨b0,g0,he0,hown,hB⟩:=hs 900 _ rfl;have he0:e 900=some (.bld b0 g0):=he0;rw[he]at he0;cases he0;refine(uH L B C X b g l _ w hB hlen).mono ?_;rintro en w' ⟨rfl,hb,g',hB',hg'⟩;exact⟨_,_,fun _ _ _ h=>(by cases h),.nilif,After.bld hp hs hd hi rfl he hb hB' hg'⟩
def qa(t u:Nat):Pat:=fun args S=>
 match args,S with
 |[.bptr 900,.int .u8 z],[(900,.bld t' u' l)]=>if t'=t/\u'=u then some ⟨some ((0<=z/\z<256)/\l.length+1<=140737488355328),none,.nilif,[(900,.bld t u (l++[UInt8.ofNat z.toNat]))]⟩else none
 |_,_=>none
theorem wZ{f t u:Nat}(L:WL P ρ)(B:WB P ρ)(C:CC P ρ)(X:Builder.Extra P ρ)(hf:ρ.f 167=f)(ht:ρ.t 72=t)(hu:ρ.t 5=u)(he:aw P f):ae P f (qa t u):=by
 subst hf ht hu;intro args S A h hob hkeys;unfold qa at h;split at h
 ·split at h
  ·rename_i e;obtain⟨rfl,rfl⟩:=e;cases h;exact⟨he,r6 L B C X _ _ (hob _ rfl).1 (hob _ rfl).2⟩
  ·cases h
 ·cases h
theorem CC.of(L:Lays.n240 P ρ)(X:Builder.X72 P ρ):CC P ρ:=
 ⟨enters_of L.f240 (by kernel_rfl) rfl,fun b w h=>Any.Builder_copyCheck_used L X b w h,fun b w h0 h1 h2=>Any.Builder_copyCheck_fresh L X b w h0 h1 h2⟩
end Go.AL
end
section
namespace Go.AL
variable [Tabs]
open Go.Proofs Go.Shelf Go.RowKit
variable {P:Program} {ρ:Ren}
theorem nX(xs:List Str):aa (.row .str xs)=xs.map AV.str:=by
 show xs.flatMap (cells .str)=_
 induction xs with
 |nil=>rfl
 |cons x r ih=>rw[O9,ih];rfl
theorem yY{f:Nat}{args:List AV}{ob:Option Prop}{xs:List Str}{k:Nat}(h:ax P f args [] ⟨ob,none,.lst .str xs (some k),[(k,.tail .str xs.length)]⟩) :
  ax P f args [] ⟨ob,none,.arr 0 xs.length 1,[(0,.box (.row .str xs))]⟩:=by
 intro w pub e vs hp ht hv hs hd hi;have he:e=fun _=>none:=funext fun id=>hd id rfl;subst he;refine(h w pub _ vs hp ht hv hs hd hi).mono ?_;rintro en w' ⟨pub',e',hq⟩
 cases en with
 |outgrown=>exact hq.elim
 |panicked ch=>obtain⟨_,_,_,h1,_⟩:=hq;cases h1
 |returned v=>
 obtain⟨_,hV,A⟩:=hq;obtain⟨base,cap,t1,t2,t3,t4,t5⟩:=A.slots k (.tail .str xs.length) (by simp[putB,ot,aE]);have t1:e' k=some (.tail xs.length base cap):=t1;have hcell:∀b o,pub b o->w'.cell? ⟨b,o,none⟩=w.cell? ⟨b,o,none⟩:=A.ext.cell;have ok:kh w' pub:=fun b o h=>by obtain⟨u,hu⟩:=hp b o h;exact⟨u,(hcell b o h).trans hu⟩
 have key:∃b len:Nat,w.heap.size<=b/\len=xs.length/\(∃a n c,v=.slice a n c/\n=xs.length/\n<=c/\c<=cm/\(a=some ⟨b,0,none⟩∨a=none/\n=0/\c=0))/\
   ∀i x,xs[i]?=some x->w'.frozen? ⟨b,i,none⟩=false/\∃u,w'.cell? ⟨b,i,none⟩=some u/\∀Ω,V Ω (.str x) u:=by
  cases hV with
  |lstNil _ _ tok=>exact⟨w.heap.size,0,Nf _,rfl,⟨_,_,_,rfl,rfl,Nf _,Nt _,.inr ⟨rfl,rfl,rfl⟩⟩,fun i x hx=>by cases hx⟩
  |lst _ _ _ b off c vals c1 c2 tok hc hval=>
   obtain⟨m,base',cap',k1,k2,k3⟩:=tok k rfl;have k1:e' k=some (.tail m base' cap'):=k1;rw[t1]at k1;cases k1;have k3:=k3 rfl
   cases base with
   |none=>simp[eK]at k3
   |some g=>
    simp only[eK,Od,Xs,OX,NX]at k3;obtain⟨⟨rfl,rfl⟩,_,rfl⟩:=k3;obtain⟨o1,vs',ty,fz,o2,o3,o4,o5⟩:=t5 b rfl
    have hb:w.heap.size<=b:=by
     rcases o1 0 with q|⟨_,_,q,_⟩
     ·exact q
     ·cases q
    refine⟨b,xs.length,hb,rfl,⟨_,_,_,rfl,rfl,c1,c2,.inl rfl⟩,fun i x hx=>⟨?_,?_⟩⟩
    ·have o2:w'.heap[b]?=some (.cells vs' ty fz):=o2;unfold World.frozen?;simp only[o2];simp[o3]
    ·have h1:=(hc i x hx 0 (.str x) rfl).2;have h2:=(hval i x hx 0 (.str x) rfl).str_inv;rw[show 0+(i *ag .str+0)=i by rw[show ag .str=1 from rfl];omega]at h1;exact⟨_,h1,fun Ω=>by rw[h2.1];exact .str _ h2.2⟩
 obtain⟨b,len,hb,rfl,⟨a,n,c,rfl,rfl,c1,c2,c3⟩,hrow⟩:=key;have hpl:(aa (.row .str xs)).length=xs.length:=by rw[nX,Oc]
 have hpart:∀(j:Nat)(c':AV),(aa (.row .str xs))[j]?=some c'->∃x,xs[j]?=some x/\c'=.str x:=fun j c' hc=>by
  rw[nX,NM]at hc
  cases hx:xs[j]? with
  |none=>rw[hx]at hc;cases hc
  |some x=>rw[hx]at hc;cases hc;exact⟨x,rfl,rfl⟩
 have npub:∀o,¬pub b o:=fun o h=>by obtain⟨u,hu⟩:=hp b o h;have:=b7 hu;omega
 refine⟨pub,fun i=>if i=0 then some (.box b 0 xs.length)else none,fun _ _ _ h=>(by cases h),.arr 0 xs.length 1 b xs.length c a (by simp) (by simp) c1 c2 c3,?_⟩;refine⟨A.os,A.tape,A.output,A.size,A.block,A.cell,A.kind,⟨fun _ _ h=>(by cases h),fun _ _ h=>h,hcell⟩,fun _ _ h=>.inl h,ok,fun id ob ho=>?_,fun id hid=>?_,fun i j ci cj b' o h1 h2 h3 h4=>?_⟩
 ·by_cases hid:id=0
  ·subst hid;simp[putB,ot,aE]at ho;subst ho;refine⟨b,0,by simp[hpl],fun j c' hc=>?_⟩;obtain⟨x,hx,rfl⟩:=hpart j c' hc;obtain⟨f1,u,f2,f3⟩:=hrow j x hx;rw[OQ];exact⟨.inl hb,npub j,f1,u,f2,f3 _⟩
  ·simp[putB,ot,aE]at ho;exact absurd ho.1.symm hid
 ·by_cases e:id=0
  ·subst e;simp[putB,ot,aE]at hid
  ·simp[e]
 ·have q:∀{i:Nat} {c:CObj},(if i=0 then some (CObj.box b 0 xs.length)else none)=some c->i=0:=fun{i c} h=>by
   by_cases e:i=0
   ·exact e
   ·simp[e]at h
  exact(q h1).trans (q h2).symm
theorem yZ{f:Nat}{args:List AV}{ob:Option Prop}{xs:List Str}{k:Nat}(h:ax P f args [] ⟨ob,none,.lst .str xs (some k),[(k,.tail .str xs.length)]⟩) :
  ax P f args [] ⟨ob,none,.lst .str xs none,[]⟩:=by
 intro w pub e vs hp ht hv hs hd hi;have he:e=fun _=>none:=funext fun id=>hd id rfl;subst he;refine(h w pub _ vs hp ht hv hs hd hi).mono ?_;rintro en w' ⟨pub',e',hq⟩
 cases en with
 |outgrown=>exact hq.elim
 |panicked ch=>obtain⟨_,_,_,h1,_⟩:=hq;cases h1
 |returned v=>
 obtain⟨_,hV,A⟩:=hq;refine⟨pub',fun _=>none,fun _ _ _ h=>(by cases h),?_,A.os,A.tape,A.output,A.size,A.block,A.cell,A.kind,⟨fun _ _ h=>(by cases h),A.ext.2,A.ext.cell⟩,A.fresh,A.ok,fun id ob ho=>(by cases ho),fun _ _=>rfl,fun i j ci cj b' o h1=>(by cases h1)⟩
 cases hV with
 |lstNil _ _ tok=>exact .lstNil _ _ (fun _ h=>by cases h)
 |lst _ _ _ b off c vals c1 c2 tok hc hval=>
  refine .lst _ _ _ b off c vals c1 c2 (fun _ h=>by cases h) hc (fun i x hx j cc hj=>?_)
  match j,hj with
  |0,hj=>cases hj;have h2:=(hval i x hx 0 (.str x) rfl).str_inv;rw[h2.1];exact .str _ h2.2
  |j+1,hj=>cases hj
end Go.AL
end
section
namespace Go.Pd
open Go.AL
abbrev okF:Flt:=⟨0,0⟩
abbrev SR3:=Shape×Int×Flt
abbrev TR3:=Trm×Int×Flt
end Go.Pd
end
section
namespace Go.Pd
open Go.AL
abbrev st(l:List Tokn)(a:Int):PS:=⟨l,a,0,0⟩
variable {l:List Tokn}
section
variable {l:List Tokn} {R:PS->Shape×PS} {R':Int->SR3}
end
end Go.Pd
end
section
namespace Go.Pd
open Go.AL
def fU(b:UInt8):Bool:=!(decide (bI b<32)&&!decide (bI b=10)&&!decide (bI b=9))
def di(s:Str):Bool:=s.all fU&&(bO s).isNone
def aS(s:Shape):Bool:=decide (bz s=0)&&allS bn s
def bg(t:Trm)(n v s p:Nat):Bool:=decide (t.names.length=n)&&decide (t.vars.length=v)&&decide (t.shapes.length=s)&&decide (t.parts.length=p)
def jt(t:Trm):Bool:=decide (0<=t.pos)&&(decide (t.n=0)||decide (t.kind=1))&&(decide (t.pkg=[])||decide (t.kind=5))&&t.shapes.all aS
def cK(l:List Str):Bool:=l.all aG&&decide l.Nodup
def cY(t:Trm):Bool:=
 if t.kind=1 then decide (t.name=[])&&decide (0<=t.n)&&decide (t.n<=999999999999999)&&bg t 0 0 0 0
 else if t.kind=2 then di t.name&&bg t 0 0 0 0
 else if t.kind=3∨t.kind=4 then decide (t.name=[])&&bg t 0 0 0 0
 else if t.kind=5 then aG t.name&&(decide (t.pkg=[])||aG t.pkg)&&bg t 0 0 0 0
 else if t.kind=6 then decide (t.name=[])&&decide (t.names.length<=4096)&&cK t.names&&bg t t.names.length 0 t.names.length 1
 else if t.kind=7 then decide (t.name=[])&&decide (0<t.parts.length)&&bg t 0 0 0 t.parts.length
 else if t.kind=8 then decide (t.name=[])&&cK t.names&&bg t t.names.length 0 0 t.names.length
 else if t.kind=9∨t.kind=10 then aG t.name&&bg t 0 0 0 1
 else if t.kind=11 then decide (t.name=[])&&bg t 0 0 1 t.parts.length
 else if t.kind=12 then decide (t.name=[])&&bg t 0 0 1 3
 else if t.kind=13 then decide (t.name=[])&&cK t.names&&t.vars.all aG&&bg t t.names.length t.names.length (t.names.length+1) (t.names.length+1)
 else if t.kind=14 then aG t.name&&bg t 0 0 0 2
 else if t.kind=15 then decide (t.name=[])&&bg t 0 0 1 1
 else if t.kind=16∨t.kind=17 then cW t.name&&bg t 0 0 0 1
 else false
def aJ(t:Trm):Bool:=jt t&&cY t
mutual
def allT(f:Trm->Bool):Trm->Bool
 |⟨k,g,q,z,ns,vs,ss,ps,pp⟩=>f ⟨k,g,q,z,ns,vs,ss,ps,pp⟩&&allTL f ps
def allTL(f:Trm->Bool):List Trm->Bool
 |[]=>true
 |p::r=>allT f p&&allTL f r
end
theorem dQ(f:Trm->Bool)(t:Trm):allT f t=(f t&&allTL f t.parts):=by cases t;rw[allT]
theorem fh(f:Trm->Bool):∀l:List Trm,allTL f l=l.all (allT f)
 |[]=>rfl
 |p::r=>by rw[NI,<-fh f r];rw[allTL]
def bP(t:Trm):Bool:=allT (fun x=>decide (x.names.length<=1000000)) t
theorem EG{t x:Trm}(h:bP t=true)(hx:x∈t.parts):bP x=true:=by unfold bP at h⊢;rw[dQ,N4,fh]at h;exact Ng.1 h.2 x hx
theorem BG{t:Trm}(h:bP t=true):t.names.length<=1000000:=by unfold bP at h;rw[dQ,N4]at h;exact Xo h.1
def b6(t:Trm):Int:=
 if 4096<(countT t 4096).1 then 3 else if 40<(countT t 4096).2 then 91 else if allT aJ t=true then 0 else 80
end Go.Pd
namespace Go.Pd
open Go.AL
theorem dnZ(n:Nat):decide ((n:Int)=0)=decide (n=0):=On.2 (by omega)
theorem dn1(n:Nat):decide ((n:Int)=1)=decide (n=1):=On.2 (by omega)
theorem dn2(n:Nat):decide ((n:Int)=2)=decide (n=2):=On.2 (by omega)
theorem dn3(n:Nat):decide ((n:Int)=3)=decide (n=3):=On.2 (by omega)
theorem dnN(n m:Nat):decide ((n:Int)=(m:Int))=decide (n=m):=On.2 (by omega)
theorem dnS(n m:Nat):decide ((n:Int)=(m:Int)+1)=decide (n=m+1):=On.2 (by omega)
theorem dnL(n:Nat):decide ((n:Int)<=4096)=decide (n<=4096):=On.2 (by omega)
theorem dnP(n:Nat):decide ((0:Int)<(n:Int))=decide (0<n):=On.2 (by omega)
theorem qN(s:Str)(k:Nat)(h:k<s.length):(b9 s).getD k (dfl (Ty.int IntKind.u8))=bI (s.getD k 0):=by unfold b9;simp[Nb,h,bI]
theorem vm(b:UInt8):fU b=false↔(bI b<32/\bI b≠10/\bI b≠9):=by unfold fU;simp only[Qc,N4,N8,Np,Ns];omega
end Go.Pd
end
section
namespace Go.Pd
open Go.AL
theorem Dy(s:Str):dD s<=s.length:=by
 by_cases h:s=[]
 ·subst h;exact Nf _
 by_cases e:dD s=0
 ·omega
 obtain⟨_,h2,_,_,h5⟩:=kB h;have:=h2 e;omega
end Go.Pd
end
section
namespace Go.Pd
open Go.AL
mutual
def vl:Trm->Int->Int
 |⟨_,_,_,_,_,_,_,ps,_⟩,m=>sizeTL ps 1 m
def sizeTL:List Trm->Int->Int->Int
 |[],n,_=>n
 |p::r,n,m=>if n<=m then sizeTL r (n+vl p (m-n)) m else n
end
mutual
theorem sizeT_bd:∀(s:Trm)(m:Int),0<=m->1<=vl s m/\vl s m<=m+1
 |⟨_,_,_,_,_,_,_,ps,_⟩,m,h=>by simp only[vl];exact sizeTL_bd ps 1 m (by omega) (by omega)
theorem sizeTL_bd:∀(l:List Trm)(n m:Int),1<=n->n<=m+1->1<=sizeTL l n m/\sizeTL l n m<=m+1
 |[],n,m,h1,h2=>by simp only[sizeTL];omega
 |p::r,n,m,h1,h2=>by
  simp only[sizeTL];split
  ·have:=sizeT_bd p (m-n) (by omega);exact sizeTL_bd r _ m (by omega) (by omega)
  ·omega
end
mutual
theorem countT_size:∀(s:Trm)(m:Int),0<=m->(countT s m).1=min (szT s:Int) (m+1)
 |⟨_,_,_,_,_,_,_,ps,_⟩,m,h=>by simp only[countT,szT];rw[countL_size ps m 1 0 (by omega)];omega
theorem countL_size:∀(l:List Trm)(m n d:Int),n<=m+1->(countL l m n d).1=min (n+szTL l) (m+1)
 |[],m,n,d,h=>by simp only[countL,szTL];omega
 |p::r,m,n,d,h=>by
  simp only[countL,szTL];have:=jL p;split
  ·show n=_;omega
  ·rw[countL_size r m _ _ (by rw[countT_size p (m-n) (by omega)];omega),countT_size p (m-n) (by omega)];omega
end
mutual
def eqT:Trm->Trm->Bool->Bool
 |⟨k,g,q,z,ns,vs,ss,ps,pp⟩,⟨k',g',q',z',ns',vs',ss',ps',pp'⟩,b=>
  decide (k=k')&&decide (g=g')&&decide (q=q')&&decide (z=z')&&(!b||decide (pp=pp'))&&decide (ns=ns')&&decide (vs=vs')&&eqL ss ss'&&eqTL ps ps' b
def eqTL:List Trm->List Trm->Bool->Bool
 |[],[],_=>true
 |x::r,y::s,b=>eqT x y b&&eqTL r s b
 |_,_,_=>false
end
theorem z6:∀{l m:List Trm} {b:Bool},l.length≠m.length->eqTL l m b=false
 |[],[],_,h=>absurd rfl h
 |[],_::_,_,_=>rfl
 |_::_,[],_,_=>rfl
 |x::r,y::s,b,h=>by rw[eqTL,z6 (l:=r) (m:=s) (by simpa using h),Ov]
mutual
theorem eqS_self:∀a:Shape,eqS a a=true
 |⟨k,p,m,ns,ps⟩=>by simp[eqS,eqL_self ps]
theorem eqL_self:∀l:List Shape,eqL l l=true
 |[]=>by simp[eqL]
 |a::r=>by simp[eqL,eqS_self a,eqL_self r]
end
mutual
theorem eqT_self:∀(a:Trm)(b:Bool),eqT a a b=true
 |⟨k,g,q,z,ns,vs,ss,ps,pp⟩,b=>by simp[eqT,eqL_self ss,eqTL_self ps b]
theorem eqTL_self:∀(l:List Trm)(b:Bool),eqTL l l b=true
 |[],b=>by simp[eqTL]
 |a::r,b=>by simp[eqTL,eqT_self a b,eqTL_self r b]
end
end Go.Pd
end
section
namespace Go.Pd
open Go.AL
def Zf(f:Flt):Prop:=f.err=0->f=okF
section
variable {l:List Tokn}
def GG{σ:Type}(p:σ->Prop)(b:σ×Int×Flt):Prop:=p b.1/\Zf b.2.2
end
section
variable {l:List Tokn}
end
def Mt(t:Trm):Prop:=allT (fun x=>decide (x.name.length<=100000)) t=true
section
variable {l:List Tokn}
abbrev GT(b:TR3):Prop:=GG Mt b
variable {R:Int->TR3}
end
end Go.Pd
end
section
namespace Go.Pd
open Go.AL
theorem mV{c:UInt8}:∀(a r:Str),(∀x∈a,x≠c)->splitB c (a++c::r)=a::splitB c r
 |[],r,_=>by show(if c=c then _ else _)=_;rw[N6 rfl]
 |b::a,r,h=>by have ih:=mV a r (fun x hx=>h x (Nn _ hx));show(if b=c then _ else match splitB c (a++c::r)with|[]=>[[b]]|p::ps=>(b::p)::ps)=_;rw[N3 (h b (NF ..)),ih]
end Go.Pd
end
section
namespace Go.Pd
open Go.AL
theorem vn(s:PS):(aD s).toks=s.toks:=rfl
theorem gP(e a:Int)(s:PS):(cC e a s).toks=s.toks:=by unfold cC;split<;>rfl
theorem ba(t:Str)(s:PS):(aj t s).toks=s.toks:=by
 unfold aj;split
 ·rfl
 ·exact gP _ _ _
theorem eY(k:Int)(s:PS):(aM k s).2.toks=s.toks:=by
 unfold aM;split
 ·rfl
 ·exact gP _ _ _
theorem jO(ns:List Str)(s:PS):(bN ns s).2.toks=s.toks:=by
 unfold bN;simp only;split
 ·rw[gP,eY]
 ·exact eY _ _
def Dz{α:Type}(l:List Tokn)(p:α->Prop)(R:PS->α×PS):Prop:=∀s,s.toks=l->p (R s).1/\(R s).2.toks=l
def qO{σ:Type}(l:List Tokn)(p:σ->Prop)(one:σ->PS->σ×PS):Prop:=∀x s,s.toks=l->p x->p (one x s).1/\(one x s).2.toks=l
theorem sV{σ:Type}{l:List Tokn}{p:σ->Prop}{one:σ->PS->σ×PS}(h:qO l p one)(btw en:Str):∀(k:Nat)(x:σ)(s:PS),s.toks=l->p x->p (aV btw en one k x s).1/\(aV btw en one k x s).2.toks=l
 |0,x,s,hs,hx=>⟨hx,hs⟩
 |k+1,x,s,hs,hx=>by
  simp only[aV];have h1:=h x s hs hx;split
  ·exact⟨hx,hs⟩
  split
  ·exact⟨h1.1,h1.2⟩
  ·exact sV h btw en k _ _ ((ba _ _).trans h1.2) h1.1
theorem eZ{σ:Type}{l:List Tokn}{p:σ->Prop}{one:σ->PS->σ×PS}(h:qO l p one)(btw en:Str){x:σ}{s:PS}(hs:s.toks=l)(hx:p x):p (ab btw en one x s).1/\(ab btw en one x s).2.toks=l:=by
 unfold ab;split
 ·exact⟨hx,hs⟩
 ·exact sV h btw en _ x s hs hx
theorem sW{l:List Tokn}{R:PS->Shape×PS}(hR:Dz l (fun _=>True) R):qO l (fun _=>True) (az R):=fun x s hs _=>⟨trivial,(hR _ ((ba _ _).trans ((jO _ _).trans hs))).2⟩
theorem BH{l:List Tokn}{R:PS->Shape×PS}(hR:Dz l (fun _=>True) R):qO l (fun _=>True) (aB R):=fun x s hs _=>⟨trivial,(hR _ hs).2⟩
theorem sX(l:List Tokn):∀n,Dz l (fun _=>True) (ah n)
 |0=>fun s hs=>⟨trivial,hs⟩
 |n+1=>fun s hs=>by
  have ih:=sX l n;refine⟨trivial,?_⟩;show(eV (ah n) s).2.toks=l;unfold eV;simp only;split
  ·exact hs
  split
  ·rw[eY,ba];exact hs
  split
  ·rw[ba];exact(ih (aD s) hs).2
  split
  ·exact(eZ (sW ih) _ _ (s:=aD s) hs trivial).2
  split
  ·exact(eZ (sW ih) _ _ (s:=aD s) hs trivial).2
  split
  ·have h:=(eZ (BH ih) [44] [41] (x:=(⟨8,[],[],[],[]⟩:Shape)) (s:=aD s) hs trivial).2;exact(ih (aj [45,62] _) ((ba _ _).trans h)).2
  ·exact(gP _ _ _).trans hs
theorem sY(s:PS):(bw s).2.toks=s.toks:=by
 have h:=(sX s.toks big s rfl).2;unfold bw;simp only;split
 ·exact h
 split
 ·exact h
 ·rw[gP];exact h
def PF(t:Trm):Prop:=∀x∈t.parts,bP x=true
theorem iB{t:Trm}(h:PF t)(hn:t.names.length<=1000000):bP t=true:=by unfold bP;rw[dQ,N4,fh];exact⟨Xd hn,Ng.2 h⟩
theorem ml{t:Trm}(h:t.parts=[]):PF t:=fun x hx=>by rw[h]at hx;cases hx
theorem BI{t u:Trm}(h:PF t)(hu:bP u=true):PF (ca t u):=by
 intro x hx;rcases NV.1 hx with k|k
 ·exact h x k
 ·rw[NK.1 k];exact hu
abbrev z7(l:List Tokn)(R:PS->Trm×PS):Prop:=Dz l (fun t=>bP t=true) R
variable {l:List Tokn} {R:PS->Trm×PS}
theorem vo(hR:z7 l R):qO l PF (aA R):=fun x s hs hx=>⟨BI hx (hR s hs).1,(hR s hs).2⟩
theorem mo(a:Str)(t:Trm)(s:PS):(eQ a t s).2.toks=s.toks:=(sY _).trans (ba _ _)
theorem HJ:qO l PF aC:=fun x s hs hx=>⟨hx,(mo _ _ _).trans ((jO _ _).trans hs)⟩
theorem BJ(hR:z7 l R):qO l PF (ai R):=fun x s hs hx=>by have h:=hR (aj [61] (bN x.names s).2) ((ba _ _).trans ((jO _ _).trans hs));exact⟨BI hx h.1,h.2⟩
theorem HK(hR:z7 l R):qO l PF (ak R):=fun x s hs hx=>by have h:=hR _ ((ba [45,62] _).trans ((ba [41] _).trans ((mo [58] (df (bR x (bN x.names s).1) (aM 1 (aj [40] (bN x.names s).2)).1.text) _).trans ((eY 1 (aj [40] (bN x.names s).2)).trans ((ba _ _).trans ((jO _ _).trans hs))))));exact⟨BI hx h.1,h.2⟩
theorem BK(hR:z7 l R){s:PS}(hs:s.toks=l):(∀x∈(cz R s).1,bP x=true)/\(cz R s).2.toks=l:=by have h:=hR (aj [40] s) ((ba _ _).trans hs);refine⟨fun x hx=>?_,(ba _ _).trans h.2⟩;rw[NK.1 hx];exact h.1
def FP(l:List Tokn)(p:Trm×PS):Prop:=bP p.1=true/\p.2.toks=l
theorem eJ{c:Prop}[Decidable c]{p q:Trm×PS}(h1:c->FP l p)(h2:¬c->FP l q):FP l (if c then p else q):=by
 split
 ·exact h1 ‹_›
 ·exact h2 ‹_›
theorem HL(hl:l.length<=4097)(hR:z7 l R):z7 l (cE R):=by
 intro s hs;have nil:∀t:Trm,t.parts=[]->t.names=[]->bP t=true:=fun t h k=>iB (ml h) (by rw[k];exact Nt _)
 have inn:∀(k j p:Int),bP (⟨k,[],(aM j (aD s)).1.text,0,[],[],[],(cz R (aM j (aD s)).2).1,p⟩:Trm)=true/\(cz R (aM j (aD s)).2).2.toks=l:=fun k j p=>
  have h:=BK hR ((eY j (aD s)).trans hs)
  ⟨iB h.1 (Nt _),h.2⟩
 show FP l (cE R s);unfold cE;refine eJ (fun _=>⟨nil _ rfl rfl,hs⟩) (fun _=>?_);refine eJ (fun _=>⟨nil _ rfl rfl,hs⟩) (fun _=>?_);refine eJ (fun _=>⟨nil _ rfl rfl,hs⟩) (fun _=>?_);refine eJ (fun _=>eJ (fun _=>⟨nil _ rfl rfl,(eY _ _).trans hs⟩) (fun _=>⟨nil _ rfl rfl,hs⟩)) (fun _=>?_);refine eJ (fun _=>⟨nil _ rfl rfl,hs⟩) (fun _=>?_);refine eJ (fun _=>⟨nil _ rfl rfl,hs⟩) (fun _=>?_);apply eJ<;>intro _
 ·have hu:=hR (aD s) hs;refine eJ (fun _=>⟨iB (fun x hx=>?_) (Nt _),(ba _ _).trans ((sY _).trans hu.2)⟩) (fun _=>⟨hu.1,(ba _ _).trans hu.2⟩);rw[NK.1 hx];exact hu.1
 apply eJ<;>intro _
 ·have h:=eZ (BJ hR) [44] [125] (x:=(⟨8,[],[],0,[],[],[],[],(an s).pos⟩:Trm)) (s:=aD s) hs (ml rfl);have hn:=dK (one:=ai R) (fun t=>t.names.length) (fun x s=>by show(x.names++[_]).length<=_;rw[N5];exact Nf _) [44] [125] (⟨8,[],[],0,[],[],[],[],(an s).pos⟩:Trm) (aD s);refine⟨iB h.1 ?_,h.2⟩;rw[vn,hs]at hn;exact NG hn (by show 0+(l.length+2)<=_;omega)
 refine eJ (fun _=>inn 10 1 _) (fun _=>?_);refine eJ (fun _=>inn 16 2 _) (fun _=>?_);refine eJ (fun _=>inn 17 2 _) (fun _=>?_);exact⟨nil _ rfl rfl,(gP _ _ _).trans hs⟩
theorem sZ(hl:l.length<=4097)(hR:z7 l R)(p:Int):∀(k:Nat)(t:Trm)(s:PS),bP t=true->s.toks=l->bP (dU R p k t s).1=true/\(dU R p k t s).2.toks=l
 |0,t,s,ht,hs=>⟨ht,hs⟩
 |k+1,t,s,ht,hs=>by
  simp only[dU];split
  ·exact⟨ht,hs⟩
  split
  ·have h:=eZ (vo hR) [44] [41] (x:=(⟨7,[],[],0,[],[],[],[t],p⟩:Trm)) (s:=aD s) hs (fun x hx=>by rw[NK.1 hx];exact ht);have hn:=cw (one:=aA R) (fun t=>t.names=[]) (fun x s hx=>hx) [44] [41] (x:=(⟨7,[],[],0,[],[],[],[t],p⟩:Trm)) (aD s) rfl;exact sZ hl hR p k _ _ (iB h.1 (by rw[hn];exact Nt _)) h.2
  split
  ·refine sZ hl hR p k _ _ (iB (fun x hx=>?_) (Nt _)) ((eY _ _).trans hs);rw[NK.1 hx];exact ht
  ·exact⟨ht,hs⟩
theorem z8(hl:l.length<=4097):∀n,z7 l (a7 n)
 |0=>fun s hs=>⟨iB (ml rfl) (Nt _),hs⟩
 |n+1=>fun s hs=>by
  have hR:=z8 hl n;have pk:=vo hR;show FP l (fC (a7 n) s);unfold fC;apply eJ<;>intro _
  ·have h:=eZ (HJ (l:=l)) [44] [41] (x:=(⟨6,[],[],0,[],[],[],[],(an s).pos⟩:Trm)) (s:=aj [40] (aD s)) ((ba _ _).trans hs) (ml rfl);have hn:=dK (one:=aC) (fun t=>t.names.length) (fun x s=>by show(x.names++[_]).length<=_;rw[N5];exact Nf _) [44] [41] (⟨6,[],[],0,[],[],[],[],(an s).pos⟩:Trm) (aj [40] (aD s));have h2:=pk _ (aj [45,62] (ab [44] [41] aC (⟨6,[],[],0,[],[],[],[],(an s).pos⟩:Trm) (aj [40] (aD s))).2) ((ba _ _).trans h.2) h.1;refine⟨iB h2.1 ?_,h2.2⟩;rw[ba,vn,hs]at hn;exact NG hn (by show 0+(l.length+2)<=_;omega)
  apply eJ<;>intro _
  ·have h1:=pk (⟨14,[],(aM 1 (aD s)).1.text,0,[],[],[],[],(an s).pos⟩:Trm) (aj [61] (aM 1 (aD s)).2) ((ba _ _).trans ((eY _ _).trans hs)) (ml rfl);have h2:=pk _ (aj [105,110] _) ((ba _ _).trans h1.2) h1.1;exact⟨iB h2.1 (Nt _),h2.2⟩
  apply eJ<;>intro _
  ·have h1:=pk (⟨12,[],[],0,[],[],[],[],(an s).pos⟩:Trm) (aD s) hs (ml rfl);have h2:=pk _ (aj [116,104,101,110] _) ((ba _ _).trans h1.2) h1.1;have h3:=pk _ (aj [101,108,115,101] _) ((ba _ _).trans h2.2) h2.1;exact⟨iB h3.1 (Nt _),(mo _ _ _).trans h3.2⟩
  apply eJ<;>intro _
  ·have h1:=pk (⟨13,[],[],0,[],[],[],[],(an s).pos⟩:Trm) (aD s) hs (ml rfl);have h:=eZ (HK hR) [124] [125] (s:=aj [123] (aj [111,102] (aA (a7 n) (⟨13,[],[],0,[],[],[],[],(an s).pos⟩:Trm) (aD s)).2)) ((ba _ _).trans ((ba _ _).trans h1.2)) h1.1;have hn:=dK (one:=ak (a7 n)) (fun t=>t.names.length) (fun x s=>by show(x.names++[_]).length<=_;rw[N5];exact Nf _) [124] [125] (aA (a7 n) (⟨13,[],[],0,[],[],[],[],(an s).pos⟩:Trm) (aD s)).1 (aj [123] (aj [111,102] (aA (a7 n) (⟨13,[],[],0,[],[],[],[],(an s).pos⟩:Trm) (aD s)).2));refine⟨iB h.1 ?_,(mo _ _ _).trans h.2⟩;rw[ba,ba,h1.2]at hn;exact NG hn (by show 0+(l.length+2)<=_;omega)
  apply eJ<;>intro _
  ·have h:=eZ pk [44] [93] (x:=(⟨11,[],[],0,[],[],[],[],(an s).pos⟩:Trm)) (s:=aD s) hs (ml rfl);have hn:=cw (one:=aA (a7 n)) (fun t=>t.names=[]) (fun x s hx=>hx) [44] [93] (x:=(⟨11,[],[],0,[],[],[],[],(an s).pos⟩:Trm)) (aD s) rfl;exact⟨iB h.1 (by show List.length (ab [44] [93] (aA (a7 n)) _ (aD s)).1.names<=_;rw[hn];exact Nt _),(mo _ _ _).trans h.2⟩
  have ha:=HL hl hR s hs;exact sZ hl hR _ _ _ _ ha.1 ha.2
end Go.Pd
namespace Go.Pd
open Go.AL
structure TokG(t:Tokn):Prop where
 kind:¬t.kind=0
 name:t.kind=1->aG t.text=true
 upper:t.kind=2->cW t.text=true
 num:t.kind=3->kz t.text
 pos:0<=t.pos
theorem jP{k:Int}{t:Str}{p:Int}(hk:¬k=0)(h1:k=1->aG t=true)(h2:k=2->cW t=true)(h3:k=3->kz t)(hp:0<=p):TokG ⟨k,t,p⟩:=⟨hk,h1,h2,h3,hp⟩
theorem za{t:Str}(h:ff t=true)(hne:t≠[]):kz t:=by unfold ff at h;simp only[N4,N8]at h;refine ir ?_ h.1.2;unfold dn;rw[Xf hne,h.1.1];rfl
theorem qP{s:Str}{c:SC}(h0:0<=c.pos)(h1:c.pos<(s.length:Int))(h:(aP s c).1=true) :
  ∃t,(aP s c).2.out=c.out++[t]/\TokG t/\t.pos=c.pos:=by
 unfold aP at h⊢;by_cases a:bL (bAt s c.pos)=true∨bM (bAt s c.pos)=true
 ·rw[N6 a]at h⊢;unfold sG at h⊢;split at h
  ·rename_i x;rw[N6 x];exact⟨_,rfl,jP (by decide) (fun e=>absurd e (by decide)) (fun e=>absurd e (by decide)) (fun e=>absurd e (by decide)) (h0),rfl⟩
  rename_i x;rw[N3 x];split at h
  ·rename_i y;rw[N6 y];exact⟨_,rfl,jP (by decide) (fun _=>y) (fun e=>absurd e (by decide)) (fun e=>absurd e (by decide)) (h0),rfl⟩
  rename_i y;rw[N3 y];split at h
  ·rename_i z;rw[N6 z];exact⟨_,rfl,jP (by decide) (fun e=>absurd e (by decide)) (fun _=>z) (fun e=>absurd e (by decide)) (h0),rfl⟩
  ·cases h
 rw[N3 a]at h⊢;by_cases b:cv (bAt s c.pos)=true
 ·rw[N6 b]at h⊢;have hw:=cN (pr:=ck) h0 h1 (by rw[jo h1]at b;unfold ck;rw[b,PN];rfl);have hl:=dp (pr:=ck) h0 (Qm h1);have hcl:=oX (s:=s) h0 (b:=c.pos+(aq ck s c.pos:Int)) (by omega) hl;unfold wT at h⊢;split at h
  ·rename_i x;rw[N6 x];exact⟨_,rfl,jP (by decide) (fun e=>absurd e (by decide)) (fun e=>absurd e (by decide)) (fun _=>za x (fun e=>by rw[e]at hcl;simp at hcl;omega)) (h0),rfl⟩
  rename_i x;rw[N3 x];split at h
  ·rename_i y;rw[N6 y];exact⟨_,rfl,jP (by decide) (fun e=>absurd e (by decide)) (fun e=>absurd e (by decide)) (fun e=>absurd e (by decide)) (h0),rfl⟩
  ·cases h
 rw[N3 b]at h⊢;by_cases d:bAt s c.pos=34
 ·rw[N6 d]at h⊢;obtain⟨q1,_,_⟩:=eG s c.pos (s.length+2) [] (bV c (c.pos+1)) (by show 0<=c.pos+1;omega) (by show c.pos+1<=_;omega);have q1':(cn s c).2.2.out=c.out:=q1;unfold wU at h⊢;split at h
  ·rename_i x;rw[N6 x];refine⟨⟨4,(cn s c).1,c.pos⟩,?_,jP (by decide) (fun e=>absurd e (by decide)) (fun e=>absurd e (by decide)) (fun e=>absurd e (by decide)) (h0),rfl⟩;show(cn s c).2.2.out++[_]=_;rw[q1']
  ·cases h
 rw[N3 d]at h⊢;unfold sH at h⊢;split at h
 ·rename_i x;rw[N6 x];exact⟨_,rfl,jP (by decide) (fun e=>absurd e (by decide)) (fun e=>absurd e (by decide)) (fun e=>absurd e (by decide)) (h0),rfl⟩
 rename_i x;rw[N3 x];split at h
 ·rename_i y;rw[N6 y];exact⟨_,rfl,jP (by decide) (fun e=>absurd e (by decide)) (fun e=>absurd e (by decide)) (fun e=>absurd e (by decide)) (h0),rfl⟩
 ·cases h
theorem mq(s:Str)(fr:Int):∀(n:Nat)(acc:Str)(c:SC),0<=c.pos->c.pos<=(s.length:Int)->(s.length:Int)<c.pos+(n:Int)->(bW s fr n acc c).2.1=false->¬(bW s fr n acc c).2.2.err=0
 |0,acc,c,h0,h1,h2,_=>by omega
 |n+1,acc,c,h0,h1,h2,h=>by
  rw[bW]at h⊢;by_cases a:bAt s c.pos<32
  ·rw[N6 a];show ¬(60:Int)=0
   decide
  rw[N3 a]at h⊢;by_cases b:bAt s c.pos=34
  ·rw[N6 b]at h;cases h
  rw[N3 b]at h⊢;by_cases d:bAt s c.pos=92
  ·rw[N6 d]at h⊢
   cases he:jn (bAt s (c.pos+1))with
   |none=>
    show ¬(60:Int)=0
    decide
   |some x=>rw[he]at h;have hp:=mU he;exact mq s fr n _ _ (by show 0<=c.pos+2;omega) (by show c.pos+2<=_;omega) (by show _<c.pos+2+(n:Int);omega) h
  rw[N3 d]at h⊢;obtain⟨p1,p2⟩:=q8 a b d;have p2:=p2 h0;have hw:=dp (pr:=aH) h0 h1
  cases hb:bO (cut s c.pos (c.pos+(aq aH s c.pos:Int)))with
  |some k=>
   show ¬(30:Int)=0
   decide
  |none=>rw[hb]at h;exact mq s fr n _ _ (by show 0<=c.pos+_;omega) hw (by show _<c.pos+_+(n:Int);omega) h
theorem lg{s:Str}{c:SC}(h0:0<=c.pos)(h1:c.pos<(s.length:Int))(h:(aP s c).1=false):¬(aP s c).2.err=0:=by
 have d60:¬(60:Int)=0:=by decide
 unfold aP at h⊢;by_cases a:bL (bAt s c.pos)=true∨bM (bAt s c.pos)=true
 ·rw[N6 a]at h⊢;unfold sG at h⊢;split at h
  ·cases h
  rename_i x;rw[N3 x];split at h
  ·cases h
  rename_i y;rw[N3 y];split at h
  ·cases h
  ·rename_i z;rw[N3 z];exact d60
 rw[N3 a]at h⊢;by_cases b:cv (bAt s c.pos)=true
 ·rw[N6 b]at h⊢;unfold wT at h⊢;split at h
  ·cases h
  rename_i x;rw[N3 x];split at h
  ·cases h
  ·rename_i y;rw[N3 y];exact d60
 rw[N3 b]at h⊢;by_cases d:bAt s c.pos=34
 ·rw[N6 d]at h⊢;unfold wU at h⊢;split at h
  ·cases h
  ·rename_i x;rw[N3 x];exact mq s c.pos (s.length+2) [] (bV c (c.pos+1)) (by show 0<=c.pos+1;omega) (by show c.pos+1<=_;omega) (by show _<c.pos+1+((s.length+2:Nat):Int);omega) (Og.2 x)
 rw[N3 d]at h⊢;unfold sH at h⊢;split at h
 ·cases h
 rename_i x;rw[N3 x];split at h
 ·cases h
 ·rename_i y;rw[N3 y];exact d60
theorem lh(s:Str):∀(n:Nat)(c:SC),0<=c.pos->c.pos<=(s.length:Int)->(s.length:Int)<c.pos+(n:Int)->(∀t∈c.out,TokG t)->(dE s n c).2.err=0->
  ∃out,(dE s n c).1=out++[⟨0,[],(s.length:Int)⟩]/\∀t∈out,TokG t
 |0,c,h0,h1,h2,_,_=>by omega
 |n+1,c,h0,h1,h2,ho,h=>by
  rw[dE]at h⊢;by_cases a:c.pos=(s.length:Int)
  ·rw[N6 a];exact⟨c.out,rfl,ho⟩
  rw[N3 a]at h⊢;have hlt:c.pos<(s.length:Int):=by omega
  by_cases b:gO (bAt s c.pos)=true
  ·rw[N6 b]at h⊢;exact lh s n _ (by show 0<=c.pos+1;omega) (by show c.pos+1<=_;omega) (by show _<c.pos+1+(n:Int);omega) ho h
  rw[N3 b]at h⊢;by_cases d:bAt s c.pos=45/\bAt s (c.pos+1)=45
  ·rw[N6 d]at h⊢;have hw:=dp (pr:=cG) h0 h1;have hh:=cN (pr:=cG) h0 hlt (by rw[<-jo hlt,d.1];rfl)
   cases hb:bO (cut s c.pos (c.pos+(aq cG s c.pos:Int)))with|some k=>rw[hb]at h;exact absurd (show(30:Int)=0 from h) (by decide)|none=>rw[hb]at h;exact lh s n _ (by show 0<=c.pos+_;omega) hw (by show _<c.pos+_+(n:Int);omega) ho h
  rw[N3 d]at h⊢;by_cases e:(aP s c).1=true
  ·rw[N6 e]at h⊢;obtain⟨t1,t2,t3⟩:=fg h0 hlt e;obtain⟨t,g1,g2,_⟩:=qP h0 hlt e;refine lh s n _ (by omega) t2 (by omega) ?_ h;rw[g1];intro x hx;rcases NV.1 hx with k|k
   ·exact ho x k
   ·rw[NK.1 k];exact g2
  ·rw[N3 e]at h
   exact absurd h (by
    have:(aP s c).1=false:=by simpa using e
    exact lg h0 hlt this)
end Go.Pd
namespace Go.Pd
open Go.AL
theorem lj{s:Str}(h:(aN s).2.err=0):s.length<=4096/\∃out,(aN s).1=out++[⟨0,[],(s.length:Int)⟩]/\∀t∈out,TokG t:=by
 unfold aN at h⊢;split at h
 ·exact absurd h (by decide)
 ·rename_i x;rw[N3 x];exact⟨by omega,lh s (s.length+2) ⟨0,[],0,0⟩ (by show(0:Int)<=0;omega) (by show(0:Int)<=_;omega) (by show _<(0:Int)+((s.length+2:Nat):Int);omega) (fun t ht=>by cases ht) h⟩
theorem nY{s:Str}(h:(aN s).2.err=0):qW (aN s).1:=by
 obtain⟨_,out,e,g⟩:=lj h;rw[e];intro t ht hk;rcases NV.1 ht with k|k
 ·exact(g t k).num hk
 ·rw[NK.1 k]at hk;exact absurd (show(0:Int)=3 from hk) (by decide)
theorem nZ{s:Str}(h:(aN s).2.err=0):0<(aN s).1.length/\(dP (aN s).1 ((aN s).1.length-1:Int)).kind=0:=by
 obtain⟨_,out,e,g⟩:=lj h;rw[e];have hl:(out++[(⟨0,[],(s.length:Int)⟩:Tokn)]).length=out.length+1:=by rw[N5];rfl
 refine⟨by omega,?_⟩;unfold dP;rw[N6 (by omega)];have hk:(((out++[(⟨0,[],(s.length:Int)⟩:Tokn)]).length:Int)-1).toNat=out.length:=by omega
 rw[hk,Nb,Nr (Nf _)];simp
def vp(l:List Tokn)(a:Int)(p:Trm×Par):Trm×Int×Flt:=
 ni cd (if aY p.2=true then p else if b6 p.1=3∨b6 p.1=91 then(p.1,cC (b6 p.1) (an (aZ l a)).pos p.2)else p)
def bA(l:List Tokn)(a:Int):Trm×Int×Flt:=if aY (aZ l a)=true then(cd,0,⟨(aZ l a).err,(aZ l a).fat⟩)else vp l a (a7 5000 (aZ l a))
def lG{α:Type}(z:α)(f:List Tokn->α×Int×Flt)(s:Str):α×Flt:=
 if(aN s).2.err=0 then
  if(f (aN s).1).2.2.err=0 then
   if(cM (aN s).1 (f (aN s).1).2.1).err=0 then((f (aN s).1).1,cM (aN s).1 (f (aN s).1).2.1)else(z,cM (aN s).1 (f (aN s).1).2.1)
  else(z,(f (aN s).1).2.2)
 else(z,(aN s).2)
def cX(s:Str):Shape×Flt:=lG eF (fun l=>eL l 0) s
def bm(s:Str):Trm×Flt:=lG cd (fun l=>bA l 0) s
theorem DA{α:Type}{z:α}{p:α×Par}{l:List Tokn}(h:(ni z p).2.2.err=0)(hc:p.2.err=0->0<=p.2.pos/\p.2.pos<(l.length:Int)):0<=(ni z p).2.1/\(ni z p).2.1<(l.length:Int):=by
 unfold ni at h⊢;split
 ·rename_i b;rw[N6 b]at h;exact absurd h (bY.1 b)
 ·rename_i b;exact hc (bK.1 (by simpa using b))
theorem qb{l:List Tokn}(h:aY (aZ l 0)=false):(aZ l 0).toks=l/\(aZ l 0).pos=0:=by
 unfold aZ;split
 ·exact⟨rfl,rfl⟩
 split<;>exact⟨rfl,rfl⟩
theorem EH{l:List Tokn}(hN:qW l)(hl:0<l.length)(hk:(dP l ((l.length:Int)-1)).kind=0)(h:(eL l 0).2.2.err=0):0<=(eL l 0).2.1/\(eL l 0).2.1<(l.length:Int):=by
 unfold eL at h⊢;split
 ·rename_i b;rw[N6 b]at h;exact absurd h (bY.1 b)
 rename_i b;rw[N3 b]at h;have b':aY (aZ l 0)=false:=by simpa using b
 have g:=jk hN b';obtain⟨e1,e2⟩:=qb b';have m:=(mg g).1;refine DA h (fun _=>?_);have hcap:=m.cap ((l.length:Int)-1) (by rw[e1];exact hk) (by rw[e2];omega);exact⟨m.good.1,by omega⟩
theorem BL{l:List Tokn}(hN:qW l)(hl:0<l.length)(hk:(dP l ((l.length:Int)-1)).kind=0)(h:(bA l 0).2.2.err=0):0<=(bA l 0).2.1/\(bA l 0).2.1<(l.length:Int):=by
 unfold bA at h⊢;split
 ·rename_i b;rw[N6 b]at h;exact absurd h (bY.1 b)
 rename_i b;rw[N3 b]at h;have b':aY (aZ l 0)=false:=by simpa using b
 have g:=jk hN b';obtain⟨e1,e2⟩:=qb b';have m:=(dB 5000 _ g (by have:=nT g;omega)).1;have hcap:=m.cap ((l.length:Int)-1) (by rw[e1];exact hk) (by rw[e2];omega);refine DA h (fun _=>?_);have hp:∀e a,(cC e a (a7 5000 (aZ l 0)).2).pos=(a7 5000 (aZ l 0)).2.pos:=fun e a=>by unfold cC;split<;>rfl
 split
 ·exact⟨m.good.1,by omega⟩
 split
 ·show 0<=(cC _ _ _).pos/\(cC _ _ _).pos<_;rw[hp];exact⟨m.good.1,by omega⟩
 ·exact⟨m.good.1,by omega⟩
end Go.Pd
end
section
namespace Go.Pd
open Go.AL
theorem HM{p:UInt8->Bool}:∀{l:Str} {c:UInt8},c∈l.takeWhile p->p c=true
 |[],_,h=>by cases h
 |b::l,c,h=>by
  rw[OM]at h;by_cases hb:p b=true
  ·rw[N6 hb]at h
   cases h with|head=>exact hb|tail _ k=>exact HM k
  ·rw[N3 hb]at h;cases h
theorem DB(s:Str)(a w:Nat):cut s (a:Int) ((a:Int)+(w:Int))=(s.drop a).take w:=by
 unfold cut;have e1:((a:Int)+(w:Int)).toNat=a+w:=by omega
 rw[e1,Nu,List.drop_take];congr 1;omega
theorem ta(p:Int->Bool)(s:Str)(a:Nat):aq p s (a:Int)=((s.drop a).takeWhile fun b=>p (bI b)).length:=by unfold aq;rw[Nu]
theorem K9(p:UInt8->Bool)(l:Str):l.take (l.takeWhile p).length=l.takeWhile p:=by
 conv=>lhs;arg 2;rw[<-PQ (p:=p) (l:=l)]
 exact List.take_left
theorem vq(p:Int->Bool)(s:Str)(a:Nat):cut s (a:Int) ((a:Int)+(aq p s (a:Int):Int))=(s.drop a).takeWhile fun b=>p (bI b):=by rw[DB,ta,K9]
theorem Ka(s:Str)(a:Nat):bAt s (a:Int)=if a<s.length then bI (s.getD a 0)else 0:=by
 unfold bAt;rw[Nu];by_cases h:a<s.length
 ·rw[N6 h,N6 (by omega)]
 ·rw[N3 h,N3 (by omega)]
end Go.Pd
end
section
namespace Go.Pd
open Go.AL
def p0(A:Ans):Pat
 |[],[]=>some A
 |_,_=>none
theorem Mu[Tabs]{P:Program}{f:Nat}{A:Ans}(he:aw P f)(h:ax P f [] [] A):ae P f (p0 A):=by
 intro args S A' hA _ _;unfold p0 at hA;split at hA
 ·simp only[Xs]at hA;subst hA;exact⟨he,h⟩
 ·cases hA
end Go.Pd
end
section
namespace Go.Pd
open Go.AL
def tc(F:Str->Shape×Flt)(G:Str->Trm×Flt):Bool:=
 decide ((F [40,73,110,116,44,32,91,75,101,121,93,41,32,45,62,32,123,97,58,32,113,47,73,100,125]).2.err=0)&&
 decide ((F [40,73,110,116,44,32,91,75,101,121,93,41,32,45,62,32,123,97,58,32,113,47,73,100,125]).1.kind=8)&&
 decide ((F [40,73,110,116,44,32,91,75,101,121,93,41,32,45,62,32,123,97,58,32,113,47,73,100,125]).1.parts.length=3)&&
 decide ((F [123,97,58,32,73,110,116,44,32,97,58,32,73,110,116,125]).2.err=111)&&
 decide ((F [123,97,58,32,73,110,116,44,32,97,58,32,73,110,116,125]).2.pos=9)&&
 decide ((G [102,46,97,40,49,41]).2.err=0)&&
 decide ((G [102,46,97,40,49,41]).1.kind=7)&&
 decide ((G [102,46,97,40,49,41]).1.parts.length=2)&&
 decide (((G [102,46,97,40,49,41]).1.parts.getD 1 (dfl (.st .term))).pos=4)&&
 decide ((G [91,73,110,116]).2.err=90)
set_option maxRecDepth 100000 in
theorem BM:tc cX bm=true:=by decide+kernel
end Go.Pd
end
section
namespace Go.Pd
open Go.AL
theorem Goes.err{s s':Par}(h:Goes s s')(e:s'.err=0):s.err=0:=by
 by_cases k:s.err=0
 ·exact k
 ·have:=h.le;rw[wN k]at this;have:=da e;omega
section
variable {l:List Tokn}
theorem ry{s:Par}(h:¬aY s=true):s.err=0:=bK.1 (by simpa using h)
theorem mr{e a:Int}{s:Par}(he:¬e=0):¬(cC e a s).err=0:=by
 unfold cC;split
 ·exact he
 ·rename_i h;exact h
end
end Go.Pd
end
section
namespace Go.Pd
open Go.AL
def zb(t:Trm):Bool:=!decide (t.kind=2)||decide (t.name.length<=4096)
def fo(t:Trm):Bool:=aJ t&&zb t
mutual
theorem fitsQ_T:∀t:Trm,allT fo t=true->allT aJ t=true/\allT zb t=true
 |⟨k,g,q,z,ns,vs,ss,ps,pp⟩,h=>by rw[allT,N4]at h;obtain⟨h1,h2⟩:=h;unfold fo at h1;rw[N4]at h1;obtain⟨r1,r2⟩:=fitsQ_TL ps h2;exact⟨by rw[allT,h1.1,r1];rfl,by rw[allT,h1.2,r2];rfl⟩
theorem fitsQ_TL:∀l:List Trm,allTL fo l=true->allTL aJ l=true/\allTL zb l=true
 |[],_=>⟨rfl,rfl⟩
 |x::r,h=>by rw[allTL,N4]at h;obtain⟨a1,a2⟩:=fitsQ_T x h.1;obtain⟨b1,b2⟩:=fitsQ_TL r h.2;exact⟨by rw[allTL,a1,b1];rfl,by rw[allTL,a2,b2];rfl⟩
end
structure TokQ(t:Tokn):Prop where
 name:t.kind=1->aG t.text=true
 upper:t.kind=2->cW t.text=true
 num:t.kind=3->kz t.text
 quot:t.kind=4->di t.text=true
 len:t.kind=4->t.text.length<=4096
 pos:0<=t.pos
def p9(l:List Tokn):Prop:=∀t∈l,TokQ t
theorem p9.look{l:List Tokn}(h:p9 l)(a:Int):TokQ (dP l a):=by
 have d:∀p:Int,0<=p->TokQ ⟨0,[],p⟩:=fun p hp=>⟨fun e=>absurd e (by show ¬(0:Int)=1;decide),fun e=>absurd e (by show ¬(0:Int)=2;decide),fun e=>absurd e (by show ¬(0:Int)=3;decide),fun e=>absurd e (by show ¬(0:Int)=4;decide),fun e=>absurd e (by show ¬(0:Int)=4;decide),hp⟩
 have g:∀a:Int,TokQ (l.getD a.toNat (dfl (.st .token))):=fun a=>by
  by_cases c:a.toNat<l.length
  ·exact h _ (bT l _ _ c)
  ·rw[Nb,Nd (by omega)];exact d 0 (OE _)
 unfold dP;split
 ·exact g a
 ·split
  ·exact d 0 (OE _)
  ·exact d _ (g _).pos
theorem vr{a:List Shape}{s:Shape}(h:allL bn a=true)(hs:allS bn s=true):allL bn (a++[s])=true:=by rw[eX]at h⊢;rw[OW,h,NI,hs];rfl
theorem td(p n:Str):allS bn (gL p n)=true:=by
 unfold gL
 repeat' split
 all_goals rfl
def Mv(R:Par->Shape×Par):Prop:=∀s,allS bn (R s).1=true
theorem mu{s:Shape}:allS bn s=true↔¬s.kind=10/\allL bn s.parts=true:=by rw[fH,N4];unfold bn;simp
theorem te:∀n,Mv (ah n)
 |0=>fun s=>rfl
 |n+1=>fun s=>by
  have ih:=te n
  have nm:∀(btw en:Str)(k:Int)(s:Par),¬k=10->allS bn (ab btw en (az (ah n)) ⟨k,[],[],[],[]⟩ s).1=true:=fun btw en k s hk=>
   cw (fun x:Shape=>allS bn x=true) (fun x s hx=>by
    rw[mu]at hx⊢;exact⟨hx.1,vr hx.2 (ih _)⟩) btw en s (mu.2 ⟨hk,rfl⟩)
  have pt:∀(x:Shape)(s:Par),allS bn x=true->allS bn (aB (ah n) x s).1=true:=fun x s hx=>by rw[mu]at hx⊢;exact⟨hx.1,vr hx.2 (ih _)⟩
  show allS bn (eV (ah n) s).1=true;unfold eV;simp only;split
  ·exact td _ _
  split
  ·exact td _ _
  split
  ·rw[mu];refine⟨by show ¬(5:Int)=10;decide,?_⟩;show(allS bn (ah n (aD s)).1&&true)=true;rw[ih];rfl
  split
  ·exact nm _ _ 6 _ (by decide)
  split
  ·exact nm _ _ 7 _ (by decide)
  split
  ·exact pt _ _ (cw (fun x:Shape=>allS bn x=true) pt _ _ _ (mu.2 ⟨by show ¬(8:Int)=10;decide,rfl⟩))
  ·rfl
theorem mw{s:Par}(h:(bw s).2.err=0):aS (bw s).1=true:=by
 have ho:=te big s;unfold bw at h⊢;simp only at h⊢;unfold aS;rw[ho];by_cases b:aY (ah big s).2=true
 ·rw[N6 b]at h;exact absurd h (bY.1 b)
 rw[N3 b]at h;by_cases c:bz (ah big s).1=0
 ·rw[Xd c];rfl
 ·rw[N3 c]at h;exact absurd h (mr c)
theorem DC{k:Int}{s:Par}(h:(aM k s).2.err=0)(hs:s.err=0):(aM k s).1=an s/\(an s).kind=k:=by
 unfold aM at h⊢;by_cases c:(an s).kind=k/\aY s=false
 ·rw[N6 c];exact⟨rfl,c.1⟩
 ·rw[N3 c]at h;exact absurd h (mr (by decide))
section
variable {l:List Tokn}
theorem pa(hl:p9 l){s:Par}(hs:s.toks=l):TokQ (an s):=by unfold an;rw[hs];exact hl.look _
theorem iY(hl:p9 l){s:Par}(hs:s.toks=l)(h0:s.err=0)(h:(aM 1 s).2.err=0):aG (aM 1 s).1.text=true:=by obtain⟨e,k⟩:=DC h h0;rw[e];exact(pa hl hs).name k
theorem tg(hl:p9 l){s:Par}(hs:s.toks=l)(h0:s.err=0)(h:(aM 2 s).2.err=0):cW (aM 2 s).1.text=true:=by obtain⟨e,k⟩:=DC h h0;rw[e];exact(pa hl hs).upper k
theorem th{ns:List Str}{s:Par}(h:(bN ns s).2.err=0):(aM 1 s).2.err=0/\¬(aM 1 s).1.text∈ns:=by
 unfold bN at h;simp only at h;by_cases c:aY (aM 1 s).2=false/\(aM 1 s).1.text∈ns
 ·rw[N6 c]at h;exact absurd h (mr (by decide))
 ·rw[N3 c]at h;exact⟨h,fun m=>c ⟨bK.2 h,m⟩⟩
theorem o7(hl:p9 l){ns:List Str}{s:Par}(hs:s.toks=l)(h0:s.err=0)(h:(bN ns s).2.err=0):aG (bN ns s).1=true/\¬(bN ns s).1∈ns:=
 ⟨iY hl hs h0 (th h).1,(th h).2⟩
theorem qc{ns:List Str}{x:Str}(h:cK ns=true)(hx:aG x=true)(hn:¬x∈ns):cK (ns++[x])=true:=by unfold cK at h⊢;rw[N4,N8]at h⊢;refine⟨by rw[OW,h.1,NI,hx];rfl,?_⟩;rw[Qi];exact⟨h.2,by simp,fun a ha b hb=>by rw[NK.1 hb];exact fun e=>hn (e ▸ ha)⟩
structure AccT(k:Int)(nm:Str)(t:Trm):Prop where
 kind:t.kind=k
 pkg:t.pkg=[]
 name:t.name=nm
 n:t.n=0
 pos:0<=t.pos
 shapes:t.shapes.all aS=true
 parts:∀x∈t.parts,allT fo x=true
theorem AccT.head{k:Int}{nm:Str}{t:Trm}(h:AccT k nm t):jt t=true:=by unfold jt;rw[Xd h.pos,Xd h.n,Xd h.pkg,h.shapes];rfl
theorem AccT.fit{k:Int}{nm:Str}{t:Trm}(h:AccT k nm t)(hb:cY t=true)(h2:¬k=2:=by decide):allT fo t=true:=by rw[dQ,fh,N4,Ng];refine⟨?_,h.parts⟩;unfold fo aJ zb;rw[h.head,hb,Xf (show ¬t.kind=2 by rw[h.kind];exact h2)];rfl
theorem AccT.addP{k:Int}{nm:Str}{t u:Trm}(h:AccT k nm t)(hu:allT fo u=true):AccT k nm (ca t u):=
 ⟨h.kind,h.pkg,h.name,h.n,h.pos,h.shapes,fun x hx=>by
  rcases NV.1 (show x∈t.parts++[u]from hx)with m|m
  ·exact h.parts x m
  ·rw[NK.1 m];exact hu⟩
theorem AccT.addS{k:Int}{nm:Str}{t:Trm}{s:Shape}(h:AccT k nm t)(hs:aS s=true):AccT k nm (bd t s):=
 ⟨h.kind,h.pkg,h.name,h.n,h.pos,by show(t.shapes++[s]).all aS=true;rw[OW,h.shapes,NI,hs];rfl,h.parts⟩
theorem AccT.addN{k:Int}{nm:Str}{t:Trm}{x:Str}(h:AccT k nm t):AccT k nm (bR t x):=⟨h.kind,h.pkg,h.name,h.n,h.pos,h.shapes,h.parts⟩
theorem AccT.addV{k:Int}{nm:Str}{t:Trm}{x:Str}(h:AccT k nm t):AccT k nm (df t x):=⟨h.kind,h.pkg,h.name,h.n,h.pos,h.shapes,h.parts⟩
theorem mX{k p:Int}{nm:Str}{ns vs:List Str}(hp:0<=p):AccT k nm ⟨k,[],nm,0,ns,vs,[],[],p⟩:=⟨rfl,rfl,rfl,rfl,hp,rfl,fun x hx=>by cases hx⟩
theorem DD{k p:Int}{nm:Str}{u:Trm}(hp:0<=p)(hu:allT fo u=true):AccT k nm ⟨k,[],nm,0,[],[],[],[u],p⟩:=⟨rfl,rfl,rfl,rfl,hp,rfl,fun x hx=>by rw[NK.1 hx];exact hu⟩
def EI(l:List Tokn)(n:Nat)(R:Par->Trm×Par):Prop:=∀s,s.toks=l->a8 s->rem s<n->(R s).2.err=0->allT fo (R s).1=true
def vt(l:List Tokn)(n:Nat)(I:Trm->Prop)(one:Trm->Par->Trm×Par):Prop:=
 ∀x s,s.toks=l->a8 s->s.err=0->rem s<=n->(one x s).2.err=0->I x->I (one x s).1
theorem tj{n:Nat}{I:Trm->Prop}{one:Trm->Par->Trm×Par}(hr:ec one n)(h:vt l n I one)(btw en:Str):∀(k:Nat)(x:Trm)(s:Par),s.toks=l->a8 s->rem s<=n->
  (aV btw en one k x s).2.err=0->I x->I (aV btw en one k x s).1
 |0,x,s,_,_,_,_,hx=>hx
 |k+1,x,s,hs,hi,hn,he,hx=>by
  simp only[aV]at he⊢;by_cases b:aY s=true
  ·rw[N6 b];exact hx
  rw[N3 b]at he⊢;have h0:=ry b;obtain⟨g,e⟩:=hr x s hi h0 hn;by_cases c:isF en (one x s).2=true
  ·rw[N6 c]at he⊢;exact h x s hs hi h0 hn he hx
  rw[N3 c]at he⊢;have gm:=g.trans (cb (t:=btw) g.good);have gl:=pY hr btw en k (one x s).1 (aj btw (one x s).2) gm.good (NG gm.le hn);have eo:=(cb (t:=btw) g.good).err (gl.err he);exact tj hr h btw en k _ _ (gm.toks.trans hs) gm.good (NG gm.le hn) he (h x s hs hi h0 hn eo hx)
theorem ju{n:Nat}{I:Trm->Prop}{one:Trm->Par->Trm×Par}(hr:ec one n)(h:vt l n I one)(btw en:Str){x:Trm}{s:Par}(hs:s.toks=l)(hi:a8 s)(hn:rem s<=n)
 (he:(ab btw en one x s).2.err=0)(hx:I x):I (ab btw en one x s).1:=by
 unfold ab at he⊢;by_cases c:isF en s=true
 ·rw[N6 c];exact hx
 rw[N3 c]at he⊢;exact tj hr h btw en _ x s hs hi hn he hx
theorem zc{n:Nat}{one:Trm->Par->Trm×Par}(hr:ec one n)(m:Trm->Nat)(hm:∀x s,m (one x s).1<=m x+1)(btw en:Str):∀(k:Nat)(x:Trm)(s:Par),a8 s->rem s<=n->
  m (aV btw en one k x s).1+rem (aV btw en one k x s).2<=m x+rem s
 |0,x,s,_,_=>Nf _
 |k+1,x,s,hi,hn=>by
  simp only[aV];by_cases b:aY s=true
  ·rw[N6 b];exact Nf _
  rw[N3 b];have h0:=ry b;obtain⟨g,e⟩:=hr x s hi h0 hn;have hp:=da h0;have h1:=hm x s;have hd:m (one x s).1+rem (one x s).2<=m x+rem s:=by rcases e with q|q<;>omega
  by_cases c:isF en (one x s).2=true
  ·rw[N6 c];have:=aW g.good c;show m (one x s).1+rem (aD (one x s).2)<=_;omega
  rw[N3 c];have gm:=cb (t:=btw) g.good;have:=zc hr m hm btw en k (one x s).1 (aj btw (one x s).2) gm.good (NG (g.trans gm).le hn);have:=gm.le;omega
theorem HN{n:Nat}{one:Trm->Par->Trm×Par}(hr:ec one n)(m:Trm->Nat)(hm:∀x s,m (one x s).1<=m x+1)(btw en:Str){x:Trm}{s:Par}(hi:a8 s)(hn:rem s<=n) :
  m (ab btw en one x s).1+rem (ab btw en one x s).2<=m x+rem s:=by
 unfold ab;by_cases c:isF en s=true
 ·rw[N6 c];have:=aW hi c;show m x+rem (aD s)<=_;omega
 rw[N3 c];exact zc hr m hm btw en _ x s hi hn
end
end Go.Pd
end
section
namespace Go.Pd
open Go.AL
section
variable {l:List Tokn}
theorem kD{a:Str}{t:Trm}{s:Par}(h:(eQ a t s).2.err=0):aS (bw (aj a s)).1=true:=mw h
theorem pb{s:Par}{t:Trm}{a:Str}(i:a8 s)(e:(eQ a t s).2.err=0):s.err=0:=(gN i).goes.err e
def FunI(t:Trm):Prop:=AccT 6 [] t/\cK t.names=true/\t.vars=[]/\t.shapes.length=t.names.length/\t.parts=[]
def WayI(t:Trm):Prop:=AccT 13 [] t/\cK t.names=true/\t.vars.all aG=true/\t.vars.length=t.names.length/\t.shapes.length=t.names.length/\t.parts.length=t.names.length+1
def HO(t:Trm):Prop:=AccT 8 [] t/\cK t.names=true/\t.vars=[]/\t.shapes=[]/\t.parts.length=t.names.length
def Ld(k:Int)(t:Trm):Prop:=AccT k [] t/\t.names=[]/\t.vars=[]/\t.shapes=[]/\(k=7->0<t.parts.length)
theorem EJ(hl:p9 l)(n:Nat):vt l n FunI aC:=fun x s hs hi h0 hn he hx=>by obtain⟨h1,h2,h3,h4,h5⟩:=hx;have m1:=dx (ns:=x.names) hi;have ef:=pb m1.good he;obtain⟨q1,q2⟩:=o7 hl hs h0 ef;refine⟨(h1.addN).addS (kD he),qc h2 q1 q2,h3,?_,h5⟩;show(x.shapes++[_]).length=(x.names++[_]).length;simp[h4]
theorem EK(hl:p9 l){n:Nat}{R:Par->Trm×Par}(hR:fD R n)(h:EI l n R):vt l n WayI (ak R):=fun x s hs hi h0 hn he hx=>by
 obtain⟨h1,h2,h3,h4,h5,h6⟩:=hx;have m1:=dx (ns:=x.names) hi;have m2:=m1.then (ay (t:=[40]) m1.good);have m3:=m2.then (bU (k:=1) m2.good (by decide));have m4:=m3.then (gN (a:=[58]) (t:=df (bR x (bN x.names s).1) (aM 1 (aj [40] (bN x.names s).2)).1.text) m3.good);have m5:=m4.then (ay (t:=[41]) m4.good);have m6:=m5.then (ay (t:=[45,62]) m5.good);have m7:=hR.moves m6.good (m6.lt hn h0);have e6:=m7.goes.err he;have e5:=(ay (t:=[45,62]) m5.good).goes.err e6;have e4:=(ay (t:=[41]) m4.good).goes.err e5;have e3:=pb m3.good e4;have e2:=(bU (k:=1) m2.good (by decide)).goes.err e3;have e1:=(ay (t:=[40]) m1.good).goes.err e2;obtain⟨q1,q2⟩:=o7 hl hs h0 e1;have q3:=iY hl (m2.goes.toks.trans hs) e2 e3;have q4:=kD e4;have q5:=h _ (m6.goes.toks.trans hs) m6.good (m6.lt hn h0) he;refine⟨(((h1.addN).addV).addS q4).addP q5,qc h2 q1 q2,?_,?_,?_,?_⟩
 ·show(x.vars++[_]).all aG=true;rw[OW,h3,NI,q3];rfl
 ·show(x.vars++[_]).length=(x.names++[_]).length;simp[h4]
 ·show(x.shapes++[_]).length=(x.names++[_]).length;simp[h5]
 ·show(x.parts++[_]).length=(x.names++[_]).length+1;simp[h6]
theorem zd(hl:p9 l){n:Nat}{R:Par->Trm×Par}(hR:fD R n)(h:EI l n R):vt l n HO (ai R):=fun x s hs hi h0 hn he hx=>by obtain⟨h1,h2,h3,h4,h5⟩:=hx;have m1:=dx (ns:=x.names) hi;have m2:=m1.then (ay (t:=[61]) m1.good);have m3:=hR.moves m2.good (m2.lt hn h0);have e2:=m3.goes.err he;have e1:=(ay (t:=[61]) m1.good).goes.err e2;obtain⟨q1,q2⟩:=o7 hl hs h0 e1;have q5:=h _ (m2.goes.toks.trans hs) m2.good (m2.lt hn h0) he;refine⟨(h1.addN).addP q5,qc h2 q1 q2,h3,h4,?_⟩;show(x.parts++[_]).length=(x.names++[_]).length;simp[h5]
theorem tl{n:Nat}{R:Par->Trm×Par}(h:EI l (n+1) R)(k:Int):vt l n (Ld k) (aA R):=fun x s hs hi h0 hn he hx=>
 ⟨hx.1.addP (h s hs hi (by omega) he),hx.2.1,hx.2.2.1,hx.2.2.2.1,fun e=>by
  have:=hx.2.2.2.2 e;show 0<(x.parts++[_]).length;simp⟩
theorem pc{t:Trm}{n v s p:Nat}(h1:t.names.length=n)(h2:t.vars.length=v)(h3:t.shapes.length=s)(h4:t.parts.length=p):bg t n v s p=true:=by unfold bg;rw[Xd h1,Xd h2,Xd h3,Xd h4];rfl
def BN(q:Trm×Par):Prop:=q.2.err=0->allT fo q.1=true
theorem db{c:Prop}[Decidable c]{q r:Trm×Par}(h1:c->BN q)(h2:¬c->BN r):BN (if c then q else r):=by
 split
 ·rename_i h;exact h1 h
 ·rename_i h;exact h2 h
theorem eA{t:Trm}{k:Int}(hk:t.kind=k):cY t=if k=1 then decide (t.name=[])&&decide (0<=t.n)&&decide (t.n<=999999999999999)&&bg t 0 0 0 0
 else if k=2 then di t.name&&bg t 0 0 0 0
 else if k=3∨k=4 then decide (t.name=[])&&bg t 0 0 0 0
 else if k=5 then aG t.name&&(decide (t.pkg=[])||aG t.pkg)&&bg t 0 0 0 0
 else if k=6 then decide (t.name=[])&&decide (t.names.length<=4096)&&cK t.names&&bg t t.names.length 0 t.names.length 1
 else if k=7 then decide (t.name=[])&&decide (0<t.parts.length)&&bg t 0 0 0 t.parts.length
 else if k=8 then decide (t.name=[])&&cK t.names&&bg t t.names.length 0 0 t.names.length
 else if k=9∨k=10 then aG t.name&&bg t 0 0 0 1
 else if k=11 then decide (t.name=[])&&bg t 0 0 1 t.parts.length
 else if k=12 then decide (t.name=[])&&bg t 0 0 1 3
 else if k=13 then decide (t.name=[])&&cK t.names&&t.vars.all aG&&bg t t.names.length t.names.length (t.names.length+1) (t.names.length+1)
 else if k=14 then aG t.name&&bg t 0 0 0 2
 else if k=15 then decide (t.name=[])&&bg t 0 0 1 1
 else if k=16∨k=17 then cW t.name&&bg t 0 0 0 1
 else false:=by subst hk;rfl
theorem kE{k n p:Int}{g q:Str}(hp:0<=p)(hn:n=0∨k=1)(hg:g=[]∨k=5)(hb:cY ⟨k,g,q,n,[],[],[],[],p⟩=true)(h2:k=2->q.length<=4096:=by intro e;exact absurd e (by decide)):allT fo ⟨k,g,q,n,[],[],[],[],p⟩=true:=by
 rw[dQ,N4];refine⟨?_,rfl⟩;unfold fo aJ
 rw[hb,Oa,show zb ⟨k,g,q,n,[],[],[],[],p⟩=true by
  unfold zb;by_cases c:k=2
  ·rw[Xd (h2 c),PN]
  ·rw[Xf (show ¬(⟨k,g,q,n,[],[],[],[],p⟩:Trm).kind=2 from c)];rfl,Oa]
 unfold jt;rw[Xd hp];rcases hn with hn|hn<;>rcases hg with hg|hg
 ·simp[hn,hg]
 ·simp[hn,hg]
 ·simp[hn,hg]
 ·exact absurd (hn.symm.trans hg) (by decide)
theorem HP{t:Trm}(h:Ld 7 t):allT fo t=true:=by obtain⟨h1,h2,h3,h4,h5⟩:=h;refine h1.fit ?_;rw[eA h1.kind];show(decide (t.name=[])&&decide (0<t.parts.length)&&bg t 0 0 0 t.parts.length)=true;rw[pc (t:=t) (by rw[h2];rfl) (by rw[h3];rfl) (by rw[h4];rfl) rfl,Xd h1.name,Xd (h5 rfl)];rfl
theorem Kb{t:Trm}(h:HO t):allT fo t=true:=by obtain⟨h1,h2,h3,h4,h5⟩:=h;refine h1.fit ?_;rw[eA h1.kind];show(decide (t.name=[])&&cK t.names&&bg t t.names.length 0 0 t.names.length)=true;rw[pc (t:=t) rfl (by rw[h3];rfl) (by rw[h4];rfl) h5,Xd h1.name,h2];rfl
theorem EL{T:Trm}(h:WayI T){u:Shape}(hu:aS u=true):allT fo (bd T u)=true:=by obtain⟨f1,f2,f3,f4,f5,f6⟩:=h;refine(f1.addS hu).fit ?_;rw[eA (t:=bd T u) (show(bd T u).kind=13 from f1.kind)];have hr:bg (bd T u) T.names.length T.names.length (T.names.length+1) (T.names.length+1)=true:=pc rfl f4 (by show(T.shapes++[u]).length=_;simp[f5]) f6;show(decide (T.name=[])&&cK T.names&&T.vars.all aG&&bg (bd T u) T.names.length T.names.length (T.names.length+1) (T.names.length+1))=true;rw[hr,Xd f1.name,f2,f3];rfl
theorem vu{k p:Int}{q:Str}{u:Trm}(hp:0<=p)(hu:allT fo u=true)(hk:(k=9∨k=10)/\aG q=true∨(k=16∨k=17)/\cW q=true):allT fo ⟨k,[],q,0,[],[],[],[u],p⟩=true:=by refine(DD (k:=k) (nm:=q) hp hu).fit ?_ (fun e=>by subst e;rcases hk with⟨h|h,_⟩|⟨h|h,_⟩<;>exact absurd h (by decide));rcases hk with⟨hk|hk,hq⟩|⟨hk|hk,hq⟩<;>subst hk<;>rw[eA rfl]<;>simp[hq,bg]
theorem HQ{n:Nat}(hl:p9 l){R:Par->Trm×Par}(hR:fD R n)(h:EI l n R){s:Par}(hs:s.toks=l)(hi:a8 s)(hn:rem s<n+1):BN (cE R s):=by
 have tk:=pa hl hs;have hp:=tk.pos;unfold cE;refine db (fun b e=>absurd e (bY.1 b)) (fun b=>?_);have h0:=ry b;refine db (fun c _=>?_) (fun _=>?_)
 ·obtain⟨_,a1,a2⟩:=Go.AL.atoi_num (tk.num c);refine kE hp (.inr rfl) (.inl rfl) ?_;rw[eA rfl];simp[bg,a1,show im (an s).text<=999999999999999 by omega]
 refine db (fun c _=>?_) (fun _=>?_)
 ·refine kE hp (.inl rfl) (.inl rfl) ?_ (fun _=>tk.len c);rw[eA rfl];simp[bg,tk.quot c]
 refine db (fun c=>?_) (fun _=>?_)
 ·have mk:=jj hi (by decide) c (bK.2 h0);refine db (fun d e=>?_) (fun d _=>?_)
  ·have m2:=aO mk.1.good d;have q:=iY hl ((mk.1.goes.trans m2.goes).toks.trans hs) ((bU (k:=1) m2.good (by decide)).goes.err e) e;refine kE hp (.inl rfl) (.inr rfl) ?_;rw[eA rfl];simp[bg,q,tk.name c]
  ·refine kE hp (.inl rfl) (.inl rfl) ?_;rw[eA rfl];simp[bg,tk.name c]
 refine db (fun c _=>?_) (fun _=>?_)
 ·refine kE hp (.inl rfl) (.inl rfl) ?_;rw[eA rfl];simp[bg]
 refine db (fun c _=>?_) (fun _=>?_)
 ·refine kE hp (.inl rfl) (.inl rfl) ?_;rw[eA rfl];simp[bg]
 refine db (fun c=>?_) (fun _=>?_)
 ·have m:=aO hi c;have r:=aW hi c;have m2:=hR.moves m.good (by omega);have fu:(R (aD s)).2.err=0->allT fo (R (aD s)).1=true:=h _ (m.goes.toks.trans hs) m.good (by omega);refine db (fun d e=>?_) (fun d e=>?_)
  ·have m3:=aO m2.good d;have m4:=iq m3.good;have e4:=(ay (t:=[41]) m4.good).goes.err e;have e1:=m3.goes.err (m4.goes.err e4);have ht:=mw e4;refine AccT.fit (k:=15) (nm:=[]) ⟨rfl,rfl,rfl,rfl,hp,by show(aS _&&true)=true;rw[ht];rfl,fun x hx=>by rw[NK.1 hx];exact fu e1⟩ ?_;rw[eA rfl];simp[bg]
  ·exact fu ((ay (t:=[41]) m2.good).goes.err e)
 refine db (fun c e=>?_) (fun _=>?_)
 ·have m:=aO hi c;have r:=aW hi c;exact Kb (ju (mh hR) (zd hl hR h) [44] [125] (m.goes.toks.trans hs) m.good (by omega) e ⟨mX hp,by rfl,rfl,rfl,rfl⟩)
 have inn:∀(k:Int)(hk:¬k=0)(q:Int)(t:Str),isF t s=true->(∀x:Str,(aM k (aD s)).2.err=0->x=(aM k (aD s)).1.text->(q=9∨q=10)/\aG x=true∨(q=16∨q=17)/\cW x=true)->
   BN ((⟨q,[],(aM k (aD s)).1.text,0,[],[],[],(cz R (aM k (aD s)).2).1,(an s).pos⟩:Trm),(cz R (aM k (aD s)).2).2):=fun k hk q t c hq e=>by
  have m:=aO hi c;have r:=aW hi c;have m1:=bU (k:=k) m.good hk;have m2:=m.then m1;have m3:=ay (t:=[40]) m2.good;have hle:=m1.goes.le;have hle3:=m3.goes.le;have m4:=hR.moves m3.good (by omega);have e4:=(ay (t:=[41]) m4.good).goes.err e;have e3:=m4.goes.err e4;have e2:=m3.goes.err e3;exact vu hp (h _ ((m2.goes.trans m3.goes).toks.trans hs) m3.good (by omega) e4) (hq _ e2 rfl)
 refine db (fun c=>inn 1 (by decide) 10 _ c (fun x e ex=>.inl ⟨.inr rfl,by
  have m:=aO hi c;rw[ex];exact iY hl (m.goes.toks.trans hs) ((bU (k:=1) m.good (by decide)).goes.err e) e⟩)) (fun _=>?_)
 refine db (fun c=>inn 2 (by decide) 16 _ c (fun x e ex=>.inr ⟨.inl rfl,by
  have m:=aO hi c;rw[ex];exact tg hl (m.goes.toks.trans hs) ((bU (k:=2) m.good (by decide)).goes.err e) e⟩)) (fun _=>?_)
 refine db (fun c=>inn 2 (by decide) 17 _ c (fun x e ex=>.inr ⟨.inr rfl,by
  have m:=aO hi c;rw[ex];exact tg hl (m.goes.toks.trans hs) ((bU (k:=2) m.good (by decide)).goes.err e) e⟩)) (fun _=>?_)
 exact fun e=>absurd e (mr (by decide))
theorem tm{n:Nat}(hl:p9 l){R:Par->Trm×Par}(hR:fD R n)(h:EI l n R){p:Int}(hp:0<=p):∀(k:Nat)(t:Trm)(s:Par),s.toks=l->a8 s->rem s<n+1->allT fo t=true->BN (dU R p k t s)
 |0,t,s,_,_,_,ht=>fun _=>ht
 |k+1,t,s,hs,hi,hn,ht=>by
  rw[dU];refine db (fun _ _=>ht) (fun b=>?_);refine db (fun c e=>?_) (fun _=>?_)
  ·have m:=aO hi c;have r:=aW hi c;have hq:=da (dV c).2;obtain⟨j,rfl⟩:∃j,n=j+1:=⟨n-1,by omega⟩;have g:=bf (dy hR) [44] [41] (⟨7,[],[],0,[],[],[],[t],p⟩:Trm) m.good (by omega);have gp:=iX hR p k (ab [44] [41] (aA R) (⟨7,[],[],0,[],[],[],[t],p⟩:Trm) (aD s)).1 _ g.good (by have:=g.le;omega);have eg:=gp.err e;have hpp:=ju (dy hR) (tl h 7) [44] [41] (m.goes.toks.trans hs) m.good (by omega) eg ⟨DD hp ht,rfl,rfl,rfl,fun _=>Nat.one_pos⟩;exact tm hl hR h hp k _ _ ((m.goes.trans g).toks.trans hs) g.good (by have:=g.le;omega) (HP hpp) e
  refine db (fun c e=>?_) (fun _ _=>ht);have m:=aO hi c;have m1:=bU (k:=1) m.good (by decide);have m2:=m.then m1;have gp:=iX hR p k (⟨9,[],(aM 1 (aD s)).1.text,0,[],[],[],[t],p⟩:Trm) _ m2.good (by have:=m2.goes.le;omega);have eg:=gp.err e;have q:=iY hl (m.goes.toks.trans hs) (m1.goes.err eg) eg;exact tm hl hR h hp k _ _ (m2.goes.toks.trans hs) m2.good (by have:=m2.goes.le;omega) (vu hp ht (.inl ⟨.inl rfl,q⟩)) e
theorem ze(hl:p9 l):∀n,EI l n (a7 n)
 |0=>fun s _ _ h=>absurd h (OO _)
 |n+1=>fun s hs hi hn=>by
  have hR:=dB n;have h:=ze hl n;have hp:=(pa hl hs).pos;have rl:=nT hi;show BN (fC (a7 n) s);unfold fC;refine db (fun c e=>?_) (fun _=>?_)
  ·have m:=aO hi c;have r:=aW hi c;have mm:=ay (t:=[40]) m.good;have m2:=m.then mm;have l1:=mm.goes.le;have g:=bf (iW n) [44] [41] (⟨6,[],[],0,[],[],[],[],(an s).pos⟩:Trm) m2.good (by omega);have l2:=g.le;have m3:=ay (t:=[45,62]) g.good;have l3:=m3.goes.le;have m4:=hR.moves m3.good (by omega);have e3:=m4.goes.err e;have e4:=m3.goes.err e3;have e5:=g.err e4
   have r5:rem (aj [40] (aD s))<rem (aD s):=by
    rcases mm.eats with q|q
    ·exact q
    ·have:=da e5;omega
   have hb:=HN (iW n) (fun x:Trm=>x.names.length) (fun x s=>by show(x.names++[_]).length<=_;simp) [44] [41] (x:=(⟨6,[],[],0,[],[],[],[],(an s).pos⟩:Trm)) m2.good (by omega);have hb4:=da e4;obtain⟨f1,f2,f3,f4,f5⟩:=ju (iW n) (EJ hl n) [44] [41] (m2.goes.toks.trans hs) m2.good (by omega) e4 (x:=(⟨6,[],[],0,[],[],[],[],(an s).pos⟩:Trm)) ⟨mX hp,by rfl,rfl,rfl,rfl⟩;have hR':=h _ (((m2.goes.trans g).trans m3.goes).toks.trans hs) m3.good (by omega) e;refine(f1.addP hR').fit ?_;have hlen:(ab [44] [41] aC (⟨6,[],[],0,[],[],[],[],(an s).pos⟩:Trm) (aj [40] (aD s))).1.names.length<=4096:=by have:(⟨6,[],[],0,[],[],[],[],(an s).pos⟩:Trm).names.length=0:=rfl;omega
   generalize (ab [44] [41] aC (⟨6,[],[],0,[],[],[],[],(an s).pos⟩:Trm) (aj [40] (aD s))).1=T at f1 f2 f3 f4 f5 hlen⊢;rw[eA (t:=ca T _) (show(ca T _).kind=6 from f1.kind)];have hr:∀u,bg (ca T u) T.names.length 0 T.names.length 1=true:=fun u=>pc rfl (by show T.vars.length=0;rw[f3];rfl) f4 (by show(T.parts++[u]).length=1;rw[f5];rfl);show(decide (T.name=[])&&decide (T.names.length<=4096)&&cK T.names&&bg (ca T _) T.names.length 0 T.names.length 1)=true;rw[hr,Xd f1.name,Xd hlen,f2];rfl
  refine db (fun c e=>?_) (fun _=>?_)
  ·have m:=aO hi c;have r:=aW hi c;have a1:=bU (k:=1) m.good (by decide);have a:=m.then a1;have b1:=ay (t:=[61]) a.good;have b:=a.then b1;have lb:=(a1.then b1).goes.le;have p1:=hR.moves b.good (by omega);have q1:=ay (t:=[105,110]) p1.good;have q:=p1.then q1;have lq:=q.goes.le;have p2:=hR.moves q.good (by omega);have eq:=p2.goes.err e;have e1:=q1.goes.err eq;have eb:=p1.goes.err e1;have ea:=b1.goes.err eb;have nm:=iY hl (m.goes.toks.trans hs) (a1.goes.err ea) ea;have u1:=h _ (b.goes.toks.trans hs) b.good (by omega) e1;have u2:=h _ ((b.then q).goes.toks.trans hs) q.good (by omega) e;refine(((mX (k:=14) (nm:=(aM 1 (aD s)).1.text) (ns:=[]) (vs:=[]) hp).addP u1).addP u2).fit ?_;rw[eA rfl];simp[ca,bg,nm]
  refine db (fun c e=>?_) (fun _=>?_)
  ·have m:=aO hi c;have r:=aW hi c;have p1:=hR.moves m.good (by omega);have b1:=ay (t:=[116,104,101,110]) p1.good;have b:=p1.then b1;have lb:=b.goes.le;have p2:=hR.moves b.good (by omega);have d1:=ay (t:=[101,108,115,101]) p2.good;have d:=p2.then d1;have ld:=d.goes.le;have p3:=hR.moves d.good (by omega);have e3:=pb p3.good e;have ed:=p3.goes.err e3;have e2':=d1.goes.err ed;have eb:=p2.goes.err e2';have e1:=b1.goes.err eb;have u1:=h _ (m.goes.toks.trans hs) m.good (by omega) e1;have u2:=h _ ((m.then b).goes.toks.trans hs) b.good (by omega) e2';have u3:=h _ (((m.then b).then d).goes.toks.trans hs) d.good (by omega) e3;refine(((((mX (k:=12) (nm:=[]) (ns:=[]) (vs:=[]) hp).addP u1).addP u2).addP u3).addS (kD e)).fit ?_;rw[eA rfl];simp[ca,bd,bg]
  refine db (fun c e=>?_) (fun _=>?_)
  ·have m:=aO hi c;have r:=aW hi c;have p1:=hR.moves m.good (by omega);have b1:=ay (t:=[111,102]) p1.good;have b:=p1.then b1;have d1:=ay (t:=[123]) b.good;have d:=b.then d1;have ld:=d.goes.le;have g:=bf (kA hR) [124] [125] (aA (a7 n) ⟨13,[],[],0,[],[],[],[],(an s).pos⟩ (aD s)).1 d.good (by omega);have eg:=pb g.good e;have ed:=g.err eg;have e1:=b1.goes.err (d1.goes.err ed);have u1:=h _ (m.goes.toks.trans hs) m.good (by omega) e1
   exact EL (ju (kA hR) (EK hl hR h) [124] [125] ((m.then d).goes.toks.trans hs) d.good (by omega) eg (x:=(aA (a7 n) ⟨13,[],[],0,[],[],[],[],(an s).pos⟩ (aD s)).1)
    ⟨(mX hp).addP u1,by rfl,by rfl,rfl,rfl,rfl⟩) (kD e)
  refine db (fun c e=>?_) (fun _=>?_)
  ·have m:=aO hi c;have r:=aW hi c;have hq:=da (dV c).2;obtain⟨j,rfl⟩:∃j,n=j+1:=⟨n-1,by omega⟩;have g:=bf (dy hR) [44] [93] (⟨11,[],[],0,[],[],[],[],(an s).pos⟩:Trm) m.good (by omega);have eg:=pb g.good e;obtain⟨f1,f2,f3,f4,f5⟩:=ju (dy hR) (tl h 11) [44] [93] (m.goes.toks.trans hs) m.good (by omega) eg (x:=(⟨11,[],[],0,[],[],[],[],(an s).pos⟩:Trm)) ⟨mX hp,rfl,rfl,rfl,fun e=>absurd e (by decide)⟩;refine(f1.addS (kD e)).fit ?_;generalize (ab [44] [93] (aA (a7 (j+1))) (⟨11,[],[],0,[],[],[],[],(an s).pos⟩:Trm) (aD s)).1=T at f1 f2 f3 f4 f5⊢;rw[eA (t:=bd T _) (show(bd T _).kind=11 from f1.kind)];have hr:∀u,bg (bd T u) 0 0 1 T.parts.length=true:=fun u=>pc (by show T.names.length=0;rw[f2];rfl) (by show T.vars.length=0;rw[f3];rfl) (by show(T.shapes++[u]).length=_;rw[f4];rfl) rfl;show(decide (T.name=[])&&bg (bd T _) 0 0 1 T.parts.length)=true;rw[hr,Xd f1.name];rfl
  intro e;have m:=nU hR hi hn;have gp:=iX hR (an s).pos (s.toks.length+2) (cE (a7 n) s).1 _ m.good (by have:=m.goes.le;omega);exact tm hl hR h hp _ _ _ (m.goes.toks.trans hs) m.good (by have:=m.goes.le;omega) (HQ hl hR h hs hi hn (gp.err e)) e
end
end Go.Pd
end
section
namespace Go.Pd
open Go.AL
theorem zf{y:Str}(h:dD y≠0)(z:Str):dD (y++z)=dD y:=by
 cases y with
 |nil=>exact absurd rfl h
 |cons b r=>
  rcases r with _|⟨x,_|⟨y,_|⟨w,t⟩⟩⟩
  ·have h1:b.toNat<128:=by refine Classical.byContradiction fun c=>h ?_;simp[dD,cu,c]
   simp[dD,h1]
  ·by_cases h1:b.toNat<128
   ·simp[dD,h1]
   by_cases h2:b.toNat/32=6/\x.toNat/64=2
   ·simp[dD,h1,h2,cu,gz]
   ·exact absurd (by
     rw[dD,N3 h1,N3 (by simpa[cu]using h2)];simp[cu]) h
  ·by_cases h1:b.toNat<128
   ·simp[dD,h1]
   by_cases h2:b.toNat/32=6/\x.toNat/64=2
   ·simp[dD,h1,h2,cu,gz]
   by_cases h3:b.toNat/16=14/\x.toNat/64=2/\y.toNat/64=2
   ·have h4:¬b.toNat/32=6:=fun e=>h2 ⟨e,h3.2.1⟩;simp[dD,h1,h3,h4,cu,gz]
   ·exact absurd (by
     rw[dD,N3 h1,N3 (by simpa[cu]using h2),N3 (by simpa[cu]using h3)];simp[cu]) h
  ·simp[dD,cu,gz]
theorem my{x:Str}(hx:x≠[]):bO x=none↔dD x≠0/\bO (x.drop (dD x))=none:=by
 have hl:=O2.2 hx;unfold bO;obtain⟨n,hn⟩:∃n,x.length=n+1:=⟨x.length-1,by omega⟩;rw[hn,gn,N3 hx];by_cases c:dD x=0
 ·rw[N6 c];simp[c]
 rw[N3 c,show 0+dD x=0+dD x from rfl,qJ,nV n (x.drop (dD x)).length _ 0 (by rw[NU];omega) (Nf _)];simp[c]
theorem DE:∀(n:Nat)(x y:Str),x.length<=n->bO x=none->bO y=none->bO (x++y)=none
 |0,x,y,hn,_,hy=>by rw[Ni (by omega:x.length=0)];exact hy
 |n+1,x,y,hn,hx,hy=>by
  by_cases c:x=[]
  ·rw[c];exact hy
  obtain⟨h1,h2⟩:=(my c).1 hx;have hl:=Dy x;refine(my (by simp[c])).2 ⟨by rw[zf h1];exact h1,?_⟩;rw[zf h1,List.drop_append_of_le_length hl];exact DE n _ _ (by rw[NU];omega) h2 hy
theorem zg{a b:Str}(h1:di a=true)(h2:di b=true):di (a++b)=true:=by unfold di at h1 h2⊢;simp only[N4,P2]at h1 h2⊢;exact⟨by rw[OW,h1.1,h2.1];rfl,DE _ _ _ (Nf _) h1.2 h2.2⟩
theorem HR{b x:Int}(h:jn b=some x):di [UInt8.ofNat x.toNat]=true:=by
 unfold jn at h
 repeat' split at h
 all_goals first|(cases h;decide)|cases h
theorem BO{t:Str}(h1:t.all (fun c=>aH (bI c))=true)(h2:bO t=none):di t=true:=by unfold di;rw[h2];simp only[Option.isNone_none,Oa];rw[Ng]at h1⊢;intro c hc;have:=h1 c hc;unfold aH at this;simp only[N4,N8]at this;unfold fU;rw[Xf (show ¬bI c<32 by omega)];rfl
theorem lu(s:Str)(fr:Int):∀(n:Nat)(acc:Str)(c:SC),0<=c.pos->di acc=true->(bW s fr n acc c).2.1=true->di (bW s fr n acc c).1=true
 |0,acc,c,_,_,h=>by cases h
 |n+1,acc,c,h0,ha,h=>by
  rw[bW]at h⊢;by_cases h1:bAt s c.pos<32
  ·rw[N6 h1]at h;cases h
  rw[N3 h1]at h⊢;by_cases h2:bAt s c.pos=34
  ·rw[N6 h2];exact ha
  rw[N3 h2]at h⊢;by_cases h3:bAt s c.pos=92
  ·rw[N6 h3]at h⊢
   cases he:jn (bAt s (c.pos+1))with
   |none=>rw[he]at h;cases h
   |some x=>rw[he]at h;exact lu s fr n _ _ (by show 0<=c.pos+2;omega) (zg ha (HR he)) h
  rw[N3 h3]at h⊢
  cases hb:bO (cut s c.pos (c.pos+(aq aH s c.pos:Int)))with
  |some k=>rw[hb]at h;cases h
  |none=>rw[hb]at h;refine lu s fr n _ _ (by show 0<=c.pos+(aq aH s c.pos:Int);omega) (zg ha (BO ?_ hb)) h;rw[Ng];intro y hy;obtain⟨a,ha⟩:∃a:Nat,c.pos=(a:Int):=⟨c.pos.toNat,by omega⟩;rw[ha,vq]at hy;exact HM (p:=fun b=>aH (bI b)) hy
theorem LJ{s:Str}{a:Int}(h:¬bAt s a<32):a<(s.length:Int):=by
 unfold bAt at h;by_cases c:a<(s.length:Int)
 ·exact c
 ·rw[N3 c]at h;exact absurd (by decide) h
theorem mz(s:Str)(fr:Int):∀(n:Nat)(acc:Str)(c:SC),0<=c.pos->(acc.length:Int)<=c.pos->(bW s fr n acc c).2.1=true->(bW s fr n acc c).1.length<=s.length
 |0,acc,c,_,_,h=>by cases h
 |n+1,acc,c,h0,ha,h=>by
  rw[bW]at h⊢;by_cases h1:bAt s c.pos<32
  ·rw[N6 h1]at h;cases h
  have hlt:=LJ h1;rw[N3 h1]at h⊢;by_cases h2:bAt s c.pos=34
  ·rw[N6 h2];show acc.length<=_;omega
  rw[N3 h2]at h⊢;by_cases h3:bAt s c.pos=92
  ·rw[N6 h3]at h⊢
   cases he:jn (bAt s (c.pos+1))with
   |none=>rw[he]at h;cases h
   |some x=>rw[he]at h;exact mz s fr n _ _ (by show 0<=c.pos+2;omega) (by show((acc++[UInt8.ofNat x.toNat]).length:Int)<=c.pos+2;rw[N5,Nc];omega) h
  rw[N3 h3]at h⊢
  cases hb:bO (cut s c.pos (c.pos+(aq aH s c.pos:Int)))with
  |some k=>rw[hb]at h;cases h
  |none=>
   rw[hb]at h;refine mz s fr n _ _ (by show 0<=c.pos+(aq aH s c.pos:Int);omega) ?_ h;show((acc++cut s c.pos (c.pos+(aq aH s c.pos:Int))).length:Int)<=c.pos+(aq aH s c.pos:Int);obtain⟨a,ha'⟩:∃a:Nat,c.pos=(a:Int):=⟨c.pos.toNat,by omega⟩;rw[ha',vq,N5];rw[ha']at ha;have e:(((s.drop a).takeWhile fun b=>aH (bI b)).length:Int)=(aq aH s (a:Int):Int):=by unfold aq;rw[Nu]
   omega
theorem zh{s:Str}{c:SC}(h0:0<=c.pos)(h1:c.pos<(s.length:Int))(h:(aP s c).1=true):∃t,(aP s c).2.out=c.out++[t]/\(t.kind=4->di t.text=true/\t.text.length<=s.length):=by
 have no:∀k:Int,¬k=4->∀(t:Str)(e:Int),∃t',(fE k t c.pos (bV c e)).2.out=c.out++[t']/\(t'.kind=4->di t'.text=true/\t'.text.length<=s.length):=fun k hk t e=>⟨⟨k,t,c.pos⟩,rfl,fun q=>absurd q hk⟩;unfold aP at h⊢;split at h
 ·rename_i a;rw[N6 a];unfold sG at h⊢;split at h
  ·rename_i x;rw[N6 x];exact no 5 (by decide) _ _
  rename_i x;rw[N3 x];split at h
  ·rename_i y;rw[N6 y];exact no 1 (by decide) _ _
  rename_i y;rw[N3 y];split at h
  ·rename_i z;rw[N6 z];exact no 2 (by decide) _ _
  ·cases h
 rename_i a;rw[N3 a];split at h
 ·rename_i b;rw[N6 b];unfold wT at h⊢;split at h
  ·rename_i x;rw[N6 x];exact no 3 (by decide) _ _
  rename_i x;rw[N3 x];split at h
  ·rename_i y;rw[N6 y];exact no 7 (by decide) _ _
  ·cases h
 rename_i b;rw[N3 b];split at h
 ·rename_i d;rw[N6 d];unfold wU at h⊢;split at h
  ·rename_i x;rw[N6 x];have ho:(cn s c).2.2.out=c.out:=(eG s c.pos (s.length+2) [] (bV c (c.pos+1)) (by show 0<=c.pos+1;omega) (by show c.pos+1<=_;omega)).1;refine⟨⟨4,(cn s c).1,c.pos⟩,by show(cn s c).2.2.out++_=_;rw[ho],fun _=>⟨lu s c.pos (s.length+2) [] (bV c (c.pos+1)) (by show 0<=c.pos+1;omega) (by decide) x,mz s c.pos (s.length+2) [] (bV c (c.pos+1)) (by show 0<=c.pos+1;omega) (by show(0:Int)<=c.pos+1;omega) x⟩⟩
  ·cases h
 rename_i d;rw[N3 d];unfold sH at h⊢;split at h
 ·rename_i x;rw[N6 x];exact no 6 (by decide) _ _
 rename_i x;rw[N3 x];split at h
 ·rename_i y;rw[N6 y];exact no 6 (by decide) _ _
 ·cases h
theorem lx(s:Str):∀(n:Nat)(c:SC),0<=c.pos->c.pos<=(s.length:Int)->(s.length:Int)<c.pos+(n:Int)->(∀t∈c.out,t.kind=4->di t.text=true/\t.text.length<=s.length)->(dE s n c).2.err=0->
  ∀t∈(dE s n c).1,t.kind=4->di t.text=true/\t.text.length<=s.length
 |0,c,h0,h1,h2,_,_=>by omega
 |n+1,c,h0,h1,h2,ho,h=>by
  rw[dE]at h⊢;by_cases a:c.pos=(s.length:Int)
  ·rw[N6 a];intro t ht hk;rcases NV.1 ht with k|k
   ·exact ho t k hk
   ·rw[NK.1 k]at hk;exact absurd (show(0:Int)=4 from hk) (by decide)
  rw[N3 a]at h⊢;have hlt:c.pos<(s.length:Int):=by omega
  by_cases b:gO (bAt s c.pos)=true
  ·rw[N6 b]at h⊢;exact lx s n _ (by show 0<=c.pos+1;omega) (by show c.pos+1<=_;omega) (by show _<c.pos+1+(n:Int);omega) ho h
  rw[N3 b]at h⊢;by_cases d:bAt s c.pos=45/\bAt s (c.pos+1)=45
  ·rw[N6 d]at h⊢;have hw:=dp (pr:=cG) h0 h1;have hh:=cN (pr:=cG) h0 hlt (by rw[<-jo hlt,d.1];rfl)
   cases hb:bO (cut s c.pos (c.pos+(aq cG s c.pos:Int)))with|some k=>rw[hb]at h;exact absurd (show(30:Int)=0 from h) (by decide)|none=>rw[hb]at h;exact lx s n _ (by show 0<=c.pos+_;omega) hw (by show _<c.pos+_+(n:Int);omega) ho h
  rw[N3 d]at h⊢;by_cases e:(aP s c).1=true
  ·rw[N6 e]at h⊢;obtain⟨t1,t2,t3⟩:=fg h0 hlt e;obtain⟨t,g1,g2⟩:=zh h0 hlt e;refine lx s n _ (by omega) t2 (by omega) ?_ h;rw[g1];intro x hx;rcases NV.1 hx with k|k
   ·exact ho x k
   ·rw[NK.1 k];exact g2
  ·rw[N3 e]at h
   exact absurd h (by
    have:(aP s c).1=false:=by simpa using e
    exact lg h0 hlt this)
theorem BP{s:Str}(h:(aN s).2.err=0):p9 (aN s).1:=by
 have hsl:s.length<=4096:=(lj h).1
 have hq:∀t∈(aN s).1,t.kind=4->di t.text=true/\t.text.length<=s.length:=by
  unfold aN at h⊢;split at h
  ·exact absurd h (by decide)
  ·rename_i x;rw[N3 x];exact lx s (s.length+2) ⟨0,[],0,0⟩ (by show(0:Int)<=0;omega) (by show(0:Int)<=_;omega) (by show _<(0:Int)+((s.length+2:Nat):Int);omega) (fun t ht=>by cases ht) h
 obtain⟨_,out,e,g⟩:=lj h;rw[e]at hq⊢;intro t ht;rcases NV.1 ht with k|k
 ·exact⟨(g t k).name,(g t k).upper,(g t k).num,fun e=>(hq t ht e).1,fun e=>NG (hq t ht e).2 hsl,(g t k).pos⟩
 ·rw[NK.1 k];exact⟨fun e=>absurd e (by show ¬(0:Int)=1;decide),fun e=>absurd e (by show ¬(0:Int)=2;decide),fun e=>absurd e (by show ¬(0:Int)=3;decide),fun e=>absurd e (by show ¬(0:Int)=4;decide),fun e=>absurd e (by show ¬(0:Int)=4;decide),by show(0:Int)<=(s.length:Int);omega⟩
theorem uI{l:List Tokn}(hN:qW l)(hl:p9 l)(h:(bA l 0).2.2.err=0):b6 (bA l 0).1=0/\allT fo (bA l 0).1=true:=by
 unfold bA at h⊢;by_cases b:aY (aZ l 0)=true
 ·rw[N6 b]at h;exact absurd h (bY.1 b)
 rw[N3 b]at h⊢;have b':aY (aZ l 0)=false:=by simpa using b
 have g:=jk hN b';obtain⟨e1,e2⟩:=qb b';have hf:=ze hl 5000 _ e1 g (by have:=nT g;omega);unfold vp at h⊢;generalize a7 5000 (aZ l 0)=q at h hf⊢;by_cases c:aY q.2=true
 ·rw[N6 c]at h;unfold ni at h;rw[N6 c]at h;exact absurd h (bY.1 c)
 rw[N3 c]at h⊢;have fit2:=hf (ry c);have fit:=(fitsQ_T _ fit2).1;by_cases d:b6 q.1=3∨b6 q.1=91
 ·rw[N6 d]at h;have hne:¬b6 q.1=0:=by rcases d with d|d<;>rw[d]<;>decide
  have hb:aY (cC (b6 q.1) (an (aZ l 0)).pos q.2)=true:=bY.2 (mr hne);unfold ni at h;rw[N6 hb]at h;exact absurd h (bY.1 hb)
 rw[N3 d];unfold ni;rw[N3 c];refine⟨?_,fit2⟩;show b6 q.1=0;unfold b6 at d⊢;split at d
 ·exact absurd (.inl rfl) d
 rename_i x;rw[N3 x];split at d
 ·exact absurd (.inr rfl) d
 rename_i y;rw[N3 y,N6 fit]
theorem nG{s:Str}(h:(bm s).2.err=0):b6 (bm s).1=0/\allT fo (bm s).1=true:=by
 unfold bm lG at h⊢;by_cases a:(aN s).2.err=0
 ·rw[N6 a]at h⊢;by_cases b:(bA (aN s).1 0).2.2.err=0
  ·rw[N6 b]at h⊢;by_cases c:(cM (aN s).1 (bA (aN s).1 0).2.1).err=0
   ·rw[N6 c];exact uI (nY a) (BP a) b
   ·rw[N3 c]at h;exact absurd h c
  ·rw[N3 b]at h;exact absurd h b
 ·rw[N3 a]at h;exact absurd h a
theorem ly{s:Str}(h:(bm s).2.err=0):b6 (bm s).1=0:=(nG h).1
end Go.Pd
end
section
namespace Go.Pd
open Go.AL
def shK(t:Tokn):Tokn:=⟨t.kind,t.text,t.pos+2⟩
section
variable {A:List Tokn} {e q:Int}
def TL0(A:List Tokn)(e:Int):List Tokn:=A++[⟨0,[],e⟩]
def TL1(A:List Tokn)(q:Int):List Tokn:=⟨6,[40],0⟩::(A.map shK++[⟨6,[41],q⟩,⟨0,[],q+1⟩])
structure Rlt(A:List Tokn)(e q:Int)(s s':Par):Prop where
 l0:s.toks=TL0 A e
 l1:s'.toks=TL1 A q
 pos:s'.pos=s.pos+1
 lo:0<=s.pos
 hi:s.pos<=(A.length:Int)
 e0:s.err=0
 e1:s'.err=0
theorem LK(t:Str)(s:Par):isF t s=((decide ((an s).kind=6)||decide ((an s).kind=5))&&decide ((an s).text=t)&&!aY s):=rfl
variable {σ:Type} {C:σ->σ->Prop}
end
end Go.Pd
end
section
namespace Go.Pd
open Go.AL
section
variable {A:List Tokn} {e q:Int}
end
mutual
def bareT:Trm->Trm
 |⟨k,g,n,z,ns,vs,ss,ps,_⟩=>⟨k,g,n,z,ns,vs,ss,bareTL ps,0⟩
def bareTL:List Trm->List Trm
 |[]=>[]
 |p::r=>bareT p::bareTL r
end
section
variable {A:List Tokn} {e q:Int}
end
end Go.Pd
end
section
namespace Go.Pd
open Go.AL
section
variable {s:Str}
structure Cl(P:Tokn)(c c':SC):Prop where
 pos:c'.pos=c.pos+2
 out:c'.out=P::c.out.map shK
variable {P:Tokn}
end
end Go.Pd
end
section
namespace Go.Pd
open Go.AL
def HS(s:Shape):Bool:=decide (s.names.length<=1000000)
def x9(t:Trm):Bool:=decide (t.names.length<=1000000)&&decide (t.vars.length<=1000000)&&decide (t.parts.length<=1000000)&&decide (szL t.shapes<=1000000000)&&allL HS t.shapes
theorem tn{t:Trm}:x9 t=true↔t.names.length<=1000000/\t.vars.length<=1000000/\t.parts.length<=1000000/\szL t.shapes<=1000000000/\allL HS t.shapes=true:=by unfold x9;simp only[N4,N8,and_assoc]
def HT(t:Trm):Bool:=allT x9 t
theorem o8:∀l:List Trm,bareTL l=l.map bareT
 |[]=>rfl
 |p::r=>by rw[Nj,<-o8 r];rw[bareTL]
theorem pd{f g:Trm->Bool}:∀(n:Nat)(t:Trm),szT t<=n->(∀x,szT x<=n->f x=true->g x=true)->allT f t=true->allT g t=true
 |0,t,h,_,_=>by have:=jL t;omega
 |n+1,t,h,k,ha=>by rw[dQ,N4,fh,Ng]at ha⊢;refine⟨k t h ha.1,fun x hx=>?_⟩;have h1:=oV hx;have h2:=mi t;exact pd n x (by omega) (fun y hy=>k y (by omega)) (ha.2 x hx)
theorem zi{f g:Shape->Bool}:∀(n:Nat)(t:Shape),sz t<=n->(∀x,sz x<=n->f x=true->g x=true)->allS f t=true->allS g t=true
 |0,t,h,_,_=>by have:=gj t;omega
 |n+1,t,h,k,ha=>by rw[fH,N4,eX,Ng]at ha⊢;refine⟨k t h ha.1,fun x hx=>?_⟩;have h1:=gi hx;have h2:=ky t;exact zi n x (by omega) (fun y hy=>k y (by omega)) (ha.2 x hx)
theorem zj{s:Shape}(h:bc s=true):s.names.length<=s.parts.length:=by
 unfold bc at h;simp only at h
 repeat' split at h
 all_goals simp[dm]at h
 all_goals simp_all
theorem zk{s:Shape}(h:aS s=true):allS HS s=true:=by
 unfold aS at h;rw[N4,N8]at h;have hc:=h.1;unfold bz at hc;split at hc
 ·exact absurd hc (by decide)
 rename_i h1;split at hc
 ·exact absurd hc (by decide)
 split at hc
 ·rename_i h3;refine zi 400 s (by omega) (fun x hx hf=>?_) h3;have:=zj hf;have:=oR x.parts;have:=ky x;unfold HS;rw[Xd (by omega)]
 ·exact absurd hc (by decide)
theorem BQ{s:Shape}(h:aS s=true):sz s<=400:=by
 unfold aS at h;rw[N4,N8]at h;have hc:=h.1;unfold bz at hc;split at hc
 ·exact absurd hc (by decide)
 ·omega
theorem BR{t:Trm}(hn:szT t<=4096)(h:aJ t=true):x9 t=true:=by
 have hl:t.parts.length<=4096:=by
  have h1:∀l:List Trm,l.length<=szTL l:=by
   intro l
   induction l with
   |nil=>exact Nt _
   |cons a r ih=>rw[szTL];have:=jL a;simp;omega
  have:=h1 t.parts;have:=mi t;omega
 unfold aJ at h;rw[N4]at h;obtain⟨h1,h2⟩:=h;have hs:allL HS t.shapes=true:=by unfold jt at h1;rw[N4,Ng]at h1;rw[eX,Ng];exact fun x hx=>zk (h1.2 x hx)
 have hb:t.names.length<=4096/\t.vars.length<=4096/\t.shapes.length<=4097:=by
  have rm:∀{n v s p:Nat},bg t n v s p=true->t.names.length=n/\t.vars.length=v/\t.shapes.length=s/\t.parts.length=p:=fun h=>by unfold bg at h;simp only[N4,N8]at h;exact⟨h.1.1.1,h.1.1.2,h.1.2,h.2⟩
  have sp:∀{c:Prop} [Decidable c] {a b:Bool} {X:Prop},(if c then a else b)=true->(a=true->X)->(b=true->X)->X:=fun{c} _ {a b X} h h1 h2=>by
   by_cases k:c
   ·rw[N6 k]at h;exact h1 h
   ·rw[N3 k]at h;exact h2 h
  unfold cY at h2;have fin:∀{b:Bool} {n v s p:Nat},(n<=4096/\v<=4096/\s<=4097)->(b&&bg t n v s p)=true->t.names.length<=4096/\t.vars.length<=4096/\t.shapes.length<=4097:=fun k h=>by rw[N4]at h;have:=rm h.2;omega
  have z0:(0:Nat)<=4096/\0<=4096/\0<=4097:=by decide
  have z1:(0:Nat)<=4096/\0<=4096/\1<=4097:=by decide
  refine sp h2 (fin z0) (fun h2=>sp h2 (fin z0) (fun h2=>sp h2 (fin z0) (fun h2=>sp h2 (fin z0) (fun h2=>sp h2 (fun h=>?_) (fun h2=>sp h2 (fin z0) (fun h2=>sp h2 (fun h=>?_) (fun h2=>sp h2 (fin z0) (fun h2=>sp h2 (fin z1) (fun h2=>sp h2 (fin z1) (fun h2=>sp h2 (fun h=>?_) (fun h2=>sp h2 (fin z0) (fun h2=>sp h2 (fin z1) (fun h2=>sp h2 (fin z0) (fun h=>by cases h))))))))))))))
  ·have h':=h;simp only[N4,N8]at h';exact fin (by omega) h
  ·have r:=rm (by rw[N4]at h;exact h.2);omega
  ·have r:=rm (by rw[N4]at h;exact h.2);omega
 have hz:szL t.shapes<=t.shapes.length *400:=by
  unfold jt at h1;rw[N4,Ng]at h1;have h1:=h1.2;generalize t.shapes=l at h1
  induction l with
  |nil=>exact Nt _
  |cons a r ih=>have:=ih fun x hx=>h1 x (Nn _ hx);have ha:=BQ (h1 a NF);rw[szL,N7];omega
 exact tn.2 ⟨by omega,by omega,by omega,by omega,hs⟩
theorem mA{t:Trm}(h:b6 t=0):HT t=true/\bP t=true:=by
 unfold b6 at h;split at h
 ·exact absurd h (by decide)
 rename_i h1;split at h
 ·exact absurd h (by decide)
 split at h
 ·rename_i h3;have hz:szT t<=4096:=by rw[countT_size t 4096 (by omega)]at h1;omega
  have sm:HT t=true:=pd 4096 t hz (fun x hx hf=>BR hx hf) h3;refine⟨sm,pd 4096 t hz (fun x hx hf=>?_) sm⟩;exact Xd (tn.1 hf).1
 ·exact absurd h (by decide)
end Go.Pd
end
section
namespace Go.Pd
open Go.AL
section
variable {W:Str}
def Sc(W:Str)(a b:Nat)(ts:List Tokn):Prop:=
 ∀(n:Nat)(c:SC),c.pos=(a:Int)->W.length<a+n->∃m:Nat,W.length<b+m/\dE W n c=dE W m ⟨(b:Int),c.out++ts,c.err,c.fat⟩
theorem Sc.refl(a:Nat):Sc W a a []:=fun n c h hn=>⟨n,hn,by rw[OD,<-h]⟩
theorem Sc.trans{a b d:Nat}{ts us:List Tokn}(h:Sc W a b ts)(k:Sc W b d us):Sc W a d (ts++us):=fun n c hp hn=>by obtain⟨m,hm,e⟩:=h n c hp hn;obtain⟨j,hj,f⟩:=k m ⟨(b:Int),c.out++ts,c.err,c.fat⟩ rfl hm;exact⟨j,hj,by rw[e,f,Nl]⟩
theorem LL{ts:List Tokn}(h:Sc W 0 W.length ts)(hl:W.length<=4096):aN W=(ts++[⟨0,[],(W.length:Int)⟩],⟨0,0⟩):=by unfold aN;rw[N3 (by omega)];obtain⟨m,hm,e⟩:=h (W.length+2) ⟨0,[],0,0⟩ rfl (by omega);obtain⟨k,rfl⟩:∃k,m=k+1:=⟨m-1,by omega⟩;rw[e,dE];show(if(W.length:Int)=(W.length:Int)then _ else _)=_;rw[N6 rfl];rfl
theorem eM{a:Nat}{x:UInt8}{z:Str}(h:W.drop a=x::z):a<W.length/\bAt W (a:Int)=bI x/\W.drop (a+1)=z:=by
 have hl:a<W.length:=by
  rcases Nv a W.length with k|k
  ·exact k
  ·rw[OI k]at h;cases h
 refine⟨hl,?_,?_⟩
 ·rw[Ka,N6 hl,<-BC,h];rfl
 ·rw[<-Pr,h];rfl
theorem HU{a:Nat}{x z:Str}(h:W.drop a=x++z)(hx:x≠[]):a+x.length<=W.length/\W.drop (a+x.length)=z:=by have hl:=OH List.length h;rw[NU,N5]at hl;have:=O2.2 hx;refine⟨by omega,?_⟩;rw[<-Pr,h,List.drop_left]
def Mw:Str->Int
 |[]=>0
 |y::_=>bI y
theorem Kc{a:Nat}{x:UInt8}{z:Str}(h:W.drop a=x::z):bAt W ((a:Int)+1)=Mw z:=by
 obtain⟨h1,_,h3⟩:=eM h
 cases z with|nil=>refine oW ?_;have:=OH List.length h3;rw[NU]at this;simp at this;omega|cons y z=>exact_mod_cast (eM h3).2.1
theorem HV{a:Nat}{z:Str}(h:W.drop a=32::z):Sc W a (a+1) []:=fun n c hp hn=>by obtain⟨h1,h2,_⟩:=eM h;obtain⟨k,rfl⟩:∃k,n=k+1:=⟨n-1,by omega⟩;refine⟨k,by omega,?_⟩;rw[dE,hp,N3 (by omega),h2,N6 (by decide),OD];rfl
theorem tp{a b:Nat}{x:UInt8}{z:Str}{t:Tokn}(h:W.drop a=x::z)(hb:gO (bI x)=false)(hc:¬(bI x=45/\∃y z',z=y::z'/\bI y=45))(hab:a<b)
 (ht:∀c:SC,c.pos=(a:Int)->aP W c=(true,⟨(b:Int),c.out++[t],c.err,c.fat⟩)):Sc W a b [t]:=fun n c hp hn=>by
 obtain⟨h1,h2,_⟩:=eM h;obtain⟨k,rfl⟩:∃k,n=k+1:=⟨n-1,by omega⟩;refine⟨k,by omega,?_⟩;have hn2:=Kc h;rw[dE,hp,N3 (by omega),h2,hb,N3 (by decide),N3 ?_,ht c hp]
 ·rfl
 ·rintro⟨e1,e2⟩;refine hc ⟨e1,?_⟩;rw[hn2]at e2
  cases z with|nil=>exact absurd e2 (by decide)|cons y z'=>exact⟨y,z',rfl,e2⟩
def HW(z:Str):Prop:=∀y z',z=y::z'->bB (bI y)=false
theorem tq{pr:Int->Bool}{a:Nat}{x z:Str}(h:W.drop a=x++z)(hx:x.all (fun b=>pr (bI b))=true)(hz:∀y z',z=y::z'->pr (bI y)=false):aq pr W (a:Int)=x.length:=by
 rw[ta,h,List.takeWhile_append_of_pos (fun b hb=>Ng.1 hx b hb)]
 cases z with|nil=>simp|cons y z'=>rw[OM,hz y z' rfl];simp
theorem qd{a:Nat}{x z:Str}(h:W.drop a=x++z):cut W (a:Int) ((a:Int)+(x.length:Int))=x:=by rw[DB,h,List.take_left]
theorem xa{a:Nat}{x:Str}{z:Str}{k:Int}(h:W.drop a=x++z)(hx:x≠[])(hr:x.all (fun b=>bB (bI b))=true)(hf:bL (bI (x.getD 0 0))=true∨bM (bI (x.getD 0 0))=true)(hz:HW z)
 (hk:(lE x=true/\k=5)∨(lE x=false/\aG x=true/\k=1)∨(lE x=false/\aG x=false/\cW x=true/\k=2)):Sc W a (a+x.length) [⟨k,x,(a:Int)⟩]:=by
 obtain⟨b,r,rfl⟩:=Oo hx;have hd:W.drop a=b::(r++z):=h;have hf':bL (bI b)=true∨bM (bI b)=true:=hf
 have hb:65<=bI b:=by
  rcases hf' with q|q
  ·unfold bL at q;rw[N4,N8,N8]at q;omega
  ·unfold bM at q;rw[N4,N8,N8]at q;omega
 refine tp hd ?_ (fun e=>by have:=e.1;omega) (by simp) (fun c hp=>?_)
 ·unfold gO;rw[Xf (by omega),Xf (by omega),Xf (by omega),Xf (by omega)];rfl
 unfold aP;rw[hp,(eM hd).2.1,N6 hf',tq h hr hz,qd h];unfold sG;have e:∀k:Int,fE k (b::r) c.pos (bV c ((a:Int)+((b::r).length:Int)))=(true,⟨((a+(b::r).length:Nat):Int),c.out++[⟨k,b::r,(a:Int)⟩],c.err,c.fat⟩):=fun k=>by unfold fE bV;rw[hp,show(a:Int)+((b::r).length:Int)=((a+(b::r).length:Nat):Int) by omega]
 rcases hk with⟨k1,rfl⟩|⟨k1,k2,rfl⟩|⟨k1,k2,k3,rfl⟩
 ·rw[N6 k1,e]
 ·rw[N3 (by rw[k1];decide),N6 k2,e]
 ·rw[N3 (by rw[k1];decide),N3 (by rw[k2];decide),N6 k3,e]
theorem Kd{a:Nat}{x:UInt8}{z:Str}(h:W.drop a=x::z)(hx:x∈mj)(hz:∀y z',z=y::z'->lF [x,y]=false)(h45:bI x≠45):Sc W a (a+1) [⟨6,[x],(a:Int)⟩]:=by
 have no:gO (bI x)=false/\bL (bI x)=false/\bM (bI x)=false/\cv (bI x)=false/\¬bI x=34/\lF [x]=true:=by
  revert hx;have:∀y∈mj,gO (bI y)=false/\bL (bI y)=false/\bM (bI y)=false/\cv (bI y)=false/\¬bI y=34/\lF [y]=true:=by decide
  exact this x
 obtain⟨n1,n2,n3,n4,n5,n6⟩:=no;obtain⟨h1,h2,h3⟩:=eM h;refine tp h n1 (fun e=>h45 e.1) (by omega) (fun c hp=>?_);unfold aP;rw[hp,h2,n2,n3,n4,N3 (by simp),N3 (by decide),N3 n5];unfold sH;have c1:cut W (a:Int) ((a:Int)+1)=[x]:=qd (x:=[x]) h;have s1:ez W (a:Int) 1=true:=by unfold ez;rw[c1,n6,Xd (by omega)];rfl
 have s2:ez W (a:Int) 2=false:=by
  unfold ez;by_cases q:(a:Int)+2<=(W.length:Int)
  ·cases z with|nil=>have:=OH List.length h;rw[NU]at this;simp at this;omega|cons y z'=>have c2:cut W (a:Int) ((a:Int)+2)=[x,y]:=qd (x:=[x,y]) h;rw[c2,hz y z' rfl,Ov]
  ·rw[Xf q];rfl
 rw[hp,s2,s1,N3 (by decide),N6 rfl,c1];unfold fE bV;rfl
theorem HX{a:Nat}{z:Str}(h:W.drop a=45::62::z):Sc W a (a+2) [⟨6,[45,62],(a:Int)⟩]:=by
 obtain⟨h1,h2,h3⟩:=eM h;obtain⟨h4,_,_⟩:=eM h3;refine tp h (by decide) (fun e=>by obtain⟨_,y,z',q,r⟩:=e;cases q;exact absurd r (by decide)) (by omega) (fun c hp=>?_);unfold aP;rw[hp,h2,N3 (by decide),N3 (by decide),N3 (by decide)];unfold sH;have c2:cut W (a:Int) ((a:Int)+2)=[45,62]:=qd (x:=[45,62]) h;have s2:ez W (a:Int) 2=true:=by unfold ez;rw[c2,Xd (by omega)];decide
 rw[hp,s2,N6 rfl,c2];unfold fE bV;rfl
end
end Go.Pd
end
section
namespace Go.Pd
open Go.AL
def joinG{α:Type}(sep:List α):List (List α)->List α
 |[]=>[]
 |x::r=>match r with|[]=>x|_::_=>x++sep++joinG sep r
theorem iZ{α:Type}(sep x:List α):joinG sep [x]=x:=rfl
theorem joinG_two{α:Type}(sep x y:List α)(r:List (List α)):joinG sep (x::y::r)=x++sep++joinG sep (y::r):=rfl
def kt(t:Tokn):Int×Str:=(t.kind,t.text)
abbrev KT:=Int×Str
def zl(k:Int)(g n:Str)(ps:List Str):Str:=
 if k=1 then[73,110,116]else if k=2 then[66,111,111,108]else if k=3 then[84,101,120,116]else if k=4 then[65,110,121]
 else if k=5 then[91]++ps.headD []++[93]
 else if k=6 then[123]++joinG [44,32] ps++[125]
 else if k=7 then[60]++joinG [32,124,32] ps++[62]
 else if k=8 then[40]++joinG [44,32] ps.dropLast++[41,32,45,62,32]++ps.getLastD []
 else if g=[]then n else g++[47]++n
def tt(k:Int)(g n:Str)(ps:List (List KT)):List KT:=
 if k=1 then[(2,[73,110,116])]else if k=2 then[(2,[66,111,111,108])]else if k=3 then[(2,[84,101,120,116])]else if k=4 then[(2,[65,110,121])]
 else if k=5 then[(6,[91])]++ps.headD []++[(6,[93])]
 else if k=6 then[(6,[123])]++joinG [(6,[44])] ps++[(6,[125])]
 else if k=7 then[(6,[60])]++joinG [(6,[124])] ps++[(6,[62])]
 else if k=8 then[(6,[40])]++joinG [(6,[44])] ps.dropLast++[(6,[41]),(6,[45,62])]++ps.getLastD []
 else if g=[]then[(2,n)]else[(1,g),(6,[47]),(2,n)]
mutual
def showS:Shape->Str
 |⟨k,g,n,ns,ps⟩=>zl k g n (showP ns ps)
def showP:List Str->List Shape->List Str
 |_,[]=>[]
 |[],p::r=>showS p::showP [] r
 |m::ns,p::r=>(m++[58,32]++showS p)::showP ns r
end
mutual
def toksS:Shape->List KT
 |⟨k,g,n,ns,ps⟩=>tt k g n (toksP ns ps)
def toksP:List Str->List Shape->List (List KT)
 |_,[]=>[]
 |[],p::r=>toksS p::toksP [] r
 |m::ns,p::r=>((1,m)::(6,[58])::toksS p)::toksP ns r
end
theorem tu(s:Shape):showS s=zl s.kind s.pkg s.name (showP s.names s.parts):=by cases s;rw[showS]
theorem mB(s:Shape):toksS s=tt s.kind s.pkg s.name (toksP s.names s.parts):=by cases s;rw[toksS]
section
variable {W:Str}
def Sk(W:Str)(a b:Nat)(ks:List KT):Prop:=∃ts,Sc W a b ts/\ts.map kt=ks
theorem Sk.trans{a b d:Nat}{ks js:List KT}(h:Sk W a b ks)(k:Sk W b d js):Sk W a d (ks++js):=by obtain⟨ts,h1,rfl⟩:=h;obtain⟨us,k1,rfl⟩:=k;exact⟨ts++us,h1.trans k1,by rw[Ox]⟩
theorem Sk.of{a b:Nat}{t:Tokn}(h:Sc W a b [t]):Sk W a b [(t.kind,t.text)]:=⟨[t],h,rfl⟩
theorem HY{a:Nat}{z:Str}(h:W.drop a=32::z):Sk W a (a+1) []:=⟨[],HV h,rfl⟩
def Pf(F:Str->Prop)(x:Str)(ks:List KT):Prop:=∀(W:Str)(a:Nat)(z:Str),W.drop a=x++z->F z->Sk W a (a+x.length) ks
def fF(z:Str):Prop:=True
def NeZ(z:Str):Prop:=∀y z',z=y::z'->bI y≠61
def Fol(z:Str):Prop:=∀y z',z=y::z'->bB (bI y)=false/\bI y≠61
abbrev Pc:=Pf Fol
theorem Fol.rest{z:Str}(h:Fol z):HW z:=fun y z' e=>(h y z' e).1
theorem Fol.ne{z:Str}(h:Fol z):NeZ z:=fun y z' e=>(h y z' e).2
theorem jv{y:UInt8}{z:Str}(h1:bB (bI y)=false)(h2:bI y≠61):Fol (y::z):=fun a b e=>by cases e;exact⟨h1,h2⟩
theorem Le{y:UInt8}{z:Str}(h2:bI y≠61):NeZ (y::z):=fun a b e=>by cases e;exact h2
theorem EM{W:Str}{a:Nat}{x y z:Str}(h:W.drop a=x++y++z):W.drop a=x++(y++z)/\W.drop (a+x.length)=y++z:=by rw[Nl]at h;exact⟨h,by rw[<-Pr,h,List.drop_left]⟩
theorem Pf.app{F G:Str->Prop}{x y:Str}{ks js:List KT}(h:Pf F x ks)(k:Pf G y js)(hy:∀z,G z->F (y++z)):Pf G (x++y) (ks++js):=fun W a z hw hz=>by obtain⟨h1,h2⟩:=EM hw;rw[N5,<-OR];exact(h W a _ h1 (hy z hz)).trans (k W _ z h2 hz)
theorem Pf.mono{F G:Str->Prop}{x:Str}{ks:List KT}(h:Pf F x ks)(hf:∀z,G z->F z):Pf G x ks:=fun W a z hw hz=>h W a z hw (hf z hz)
theorem HZ{F:Str->Prop}:Pf F [] []:=fun W a z h hz=>⟨[],Sc.refl a,rfl⟩
theorem gu:Pf fF [32] []:=fun W a z h hz=>HY h
theorem cI{x:UInt8}(hx:x∈mj):Pf NeZ [x] [(6,[x])]:=fun W a z h hz=>by
 have h45:bI x≠45:=by
  revert hx;have:∀y∈mj,bI y≠45:=by decide
  exact this x
 refine Sk.of (Kd h hx (fun y z' e=>?_) h45);have hy:=hz y z' e;unfold lF;have hy':y≠61:=fun e=>hy (by rw[e];decide);have hx':x≠45:=fun e=>h45 (by rw[e];decide);simp[hy',hx']
theorem zm:Pf fF [45,62] [(6,[45,62])]:=fun W a z h hz=>Sk.of (HX h)
theorem du{x:UInt8}(hx:x∈mj):Pf fF [x,32] [(6,[x])]:=(cI hx).app gu (fun z _=>Le (by decide))
theorem lz{f:Int->Bool}{x:Str}(h:de f x=true):x≠[]/\x.all (fun b=>bB (bI b))=true/\f (bI (x.getD 0 0))=true:=by unfold de at h;simp only[N4,Np,Ns,N8]at h;exact⟨h.1.1.1,h.2,h.1.2⟩
theorem fI{x:Str}(h:aG x=true):Pc x [(1,x)]:=fun W a z hw hz=>by have h':=h;unfold aG at h';rw[N4,Np]at h';obtain⟨n1,n2,n3⟩:=lz h'.1;exact Sk.of (xa hw n1 n2 (.inl n3) hz.rest (.inr (.inl ⟨h'.2,h,rfl⟩)))
theorem qQ{c:Int}(h:bM c=true):bL c=false:=by unfold bM at h;unfold bL;rw[N4,N8,N8]at h;rw[Xf (by omega)];rfl
theorem pe{x:Str}(h:cW x=true):Pc x [(2,x)]:=fun W a z hw hz=>by
 obtain⟨n1,n2,n3⟩:=lz (f:=bM) h;have w:∀y∈nB,bL (bI (y.getD 0 0))=true:=by decide
 have hw':lE x=false:=by unfold lE;rw[Ns];intro m;have:=w x m;rw[qQ n3]at this;cases this
 have hn:aG x=false:=by rw[Og];intro e;unfold aG at e;rw[N4]at e;obtain⟨_,_,e3⟩:=lz e.1;rw[qQ n3]at e3;cases e3
 exact Sk.of (xa hw n1 n2 (.inr n3) hz.rest (.inr (.inr ⟨hw',hn,h,rfl⟩)))
theorem xb{x:Str}(h:x∈nB):Pc x [(5,x)]:=fun W a z hw hz=>by
 have:∀y∈nB,y≠[]/\y.all (fun b=>bB (bI b))=true/\bL (bI (y.getD 0 0))=true:=by decide
 obtain⟨n1,n2,n3⟩:=this x h;exact Sk.of (xa hw n1 n2 (.inl n3) hz.rest (.inl ⟨Xd h,rfl⟩))
theorem xc{sep:Str}{ss:List KT}(hs:Pf fF sep ss)(hf:∀z:Str,Fol (sep++z)):∀(xs:List Str)(ks:List (List KT)),xs.length=ks.length->
  (∀i (hi:i<xs.length) (hk:i<ks.length),Pc xs[i] ks[i])->Pc (joinG sep xs) (joinG ss ks)
 |[],[],_,_=>HZ
 |[x],[k],_,h=>h 0 (by simp) (by simp)
 |x::y::r,k::j::q,hl,h=>by rw[joinG_two,joinG_two];have h0:Pc x k:=h 0 (by simp) (by simp);have h1:Pf fF (x++sep) (k++ss):=h0.app hs (fun z _=>hf z);exact h1.app (xc hs hf (y::r) (j::q) (by simpa using hl) (fun i hi hk=>h (i+1) (by simpa using hi) (by simpa using hk))) (fun z _=>trivial)
 |[],_::_,hl,_=>by cases hl
 |_::_,[],hl,_=>by cases hl
 |[x],_::_::_,hl,_=>by cases hl
 |_::_::_,[_],hl,_=>by cases hl
def Hd(x:Str):Prop:=∃y r,x=y::r/\bI y≠61
theorem Hd.ne{x:Str}(h:Hd x)(z:Str):NeZ (x++z):=by obtain⟨y,r,rfl,h2⟩:=h;exact Le h2
theorem pg{f:Int->Bool}{x:Str}(h:de f x=true):Hd x:=by obtain⟨n1,n2,_⟩:=lz h;obtain⟨y,r,rfl⟩:=Oo n1;refine⟨y,r,rfl,fun e=>?_⟩;rw[NI,N4,e]at n2;exact absurd n2.1 (by decide)
theorem ph{sep:Str}(hs:Hd sep):∀{xs:List Str},xs≠[]->(∀x∈xs,Hd x)->Hd (joinG sep xs)
 |[x],_,h=>h x (by simp)
 |x::y::r,_,h=>by obtain⟨c,q,rfl,h2⟩:=h x (by simp);exact⟨c,q++sep++joinG sep (y::r),rfl,h2⟩
 |[],hn,_=>absurd rfl hn
theorem qe:∀(ns:List Str)(ps:List Shape),(showP ns ps).length=ps.length
 |_,[]=>by rw[showP];rfl
 |[],p::r=>by rw[showP,N7,qe [] r];rfl
 |m::ns,p::r=>by rw[showP,N7,qe ns r];rfl
theorem kF:∀(ns:List Str)(ps:List Shape),(toksP ns ps).length=ps.length
 |_,[]=>by rw[toksP];rfl
 |[],p::r=>by rw[toksP,N7,kF [] r];rfl
 |m::ns,p::r=>by rw[toksP,N7,kF ns r];rfl
theorem kG{H:Shape->Prop}(h:∀s,H s->Pc (showS s) (toksS s)/\Hd (showS s)):∀(ns:List Str)(ps:List Shape),(∀m∈ns,aG m=true)->(∀p∈ps,H p)->
  (∀i (hi:i<(showP ns ps).length) (hk:i<(toksP ns ps).length),Pc (showP ns ps)[i] (toksP ns ps)[i])/\∀x∈showP ns ps,Hd x
 |_,[],_,_=>by exact⟨fun i hi=>by rw[showP]at hi;exact absurd hi (OO _),fun x hx=>by rw[showP]at hx;cases hx⟩
 |[],p::r,hn,hp=>by
  obtain⟨a,b⟩:=kG h [] r hn (fun q hq=>hp q (Nn _ hq));obtain⟨c,d⟩:=h p (hp p NF);simp only[showP,toksP];refine⟨fun i hi hk=>?_,fun x hx=>?_⟩
  ·cases i with|zero=>exact c|succ i=>exact a i (by simpa using hi) (by simpa using hk)
  ·rcases Nw.1 hx with rfl|k
   ·exact d
   ·exact b x k
 |m::ns,p::r,hn,hp=>by
  obtain⟨a,b⟩:=kG h ns r (fun q hq=>hn q (Nn _ hq)) (fun q hq=>hp q (Nn _ hq));obtain⟨c,d⟩:=h p (hp p NF);have hm:=hn m NF;simp only[showP,toksP];have one:Pc (m++[58,32]++showS p) ((1,m)::(6,[58])::toksS p):=by have e1:Pf fF (m++[58,32]) ([(1,m)]++[(6,[58])]):=(fI hm).app (du (x:=58) (by decide)) (fun z _=>jv (by decide) (by decide));exact e1.app c (fun z _=>trivial)
  refine⟨fun i hi hk=>?_,fun x hx=>?_⟩
  ·cases i with|zero=>exact one|succ i=>exact a i (by simpa using hi) (by simpa using hk)
  ·rcases Nw.1 hx with rfl|k
   ·have hm':=hm;unfold aG at hm';rw[N4]at hm';obtain⟨y,q,rfl,h2⟩:=pg hm'.1;exact⟨y,q++[58,32]++showS p,rfl,h2⟩
   ·exact b x k
theorem tv:∀(n:Nat)(s:Shape),sz s<=n->allS bc s=true->Pc (showS s) (toksS s)/\Hd (showS s)
 |0,s,hn,_=>by have:=gj s;omega
 |n+1,s,hn,hf=>by
  rw[fH,N4,eX,Ng]at hf;obtain⟨f1,f2⟩:=hf;have hz:=ky s;have hps:∀p∈s.parts,sz p<=n/\allS bc p=true:=fun p hp=>⟨by have:=gi hp;omega,f2 p hp⟩;have ih:∀p,(sz p<=n/\allS bc p=true)->Pc (showS p) (toksS p)/\Hd (showS p):=fun p hp=>tv n p hp.1 hp.2;have lp:=qe s.names s.parts;have lt:=kF s.names s.parts;rw[tu,mB];unfold bc at f1;simp only at f1;unfold zl tt
  have sp:∀{c:Prop} [Decidable c] {x y:Str} {u v:List KT},(c->Pc x u/\Hd x)->(¬c->Pc y v/\Hd y)->Pc (if c then x else y) (if c then u else v)/\Hd (if c then x else y):=fun{c} _ {x y u v} h1 h2=>by
   by_cases k:c
   ·rw[N6 k,N6 k];exact h1 k
   ·rw[N3 k,N3 k];exact h2 k
  have up:∀{x:Str},cW x=true->Pc x [(2,x)]/\Hd x:=fun h=>⟨pe h,pg (f:=bM) h⟩;refine sp (fun _=>up (by decide)) (fun k1=>sp (fun _=>up (by decide)) (fun k2=>sp (fun _=>up (by decide)) (fun k3=>sp (fun _=>up (by decide)) (fun k4=>?_))));rw[N3 (by simp[k1,k2,k3,k4])]at f1;have bare:∀{ns:List Str},ns=[]->∀m∈ns,aG m=true:=fun e m hm=>by rw[e]at hm;cases hm
  apply sp<;>intro k5
  ·rw[N6 k5]at f1;simp only[N4,N8]at f1;obtain⟨q1,q2⟩:=kG (H:=fun p=>sz p<=n/\allS bc p=true) ih s.names s.parts (bare f1.1.2) hps;obtain⟨p,hp⟩:∃p,s.parts=[p]:=Oh.1 f1.2;obtain⟨x,hx⟩:∃x,showP s.names s.parts=[x]:=Oh.1 (by rw[lp,f1.2]);obtain⟨u,hu⟩:∃u,toksP s.names s.parts=[u]:=Oh.1 (by rw[lt,f1.2]);have h0:Pc x u:=by have:=q1 0 (by rw[hx];simp) (by rw[hu];simp);simpa[hx,hu]using this
   have hd:Hd x:=q2 x (by rw[hx];simp);rw[hx,hu];have e1:Pc ([91]++x) ([(6,[91])]++u):=(cI (x:=91) (by decide)).app h0 (fun z _=>hd.ne z);exact⟨e1.app ((cI (x:=93) (by decide)).mono (fun z hz=>hz.ne)) (fun z _=>jv (by decide) (by decide)),91,x++[93],rfl,by decide⟩
  rw[N3 k5]at f1
  have brk:∀(o c:UInt8)(sep:Str)(ss:List KT),o∈mj->c∈mj->bI o≠61->bI c≠61->bB (bI c)=false->Pf fF sep ss->(∀z:Str,Fol (sep++z))->(∀i (hi:i<(showP s.names s.parts).length) (hk:i<(toksP s.names s.parts).length),Pc (showP s.names s.parts)[i] (toksP s.names s.parts)[i])->(∀x∈showP s.names s.parts,Hd x)->Hd sep->
    Pc ([o]++joinG sep (showP s.names s.parts)++[c]) ([(6,[o])]++joinG ss (toksP s.names s.parts)++[(6,[c])])/\Hd ([o]++joinG sep (showP s.names s.parts)++[c]):=fun o c sep ss ho hc o6 c6 cr hs hf q1 q2 hsd=>by
   have j:=xc hs hf _ _ (by rw[lp,lt]) q1
   have e1:Pc ([o]++joinG sep (showP s.names s.parts)) ([(6,[o])]++joinG ss (toksP s.names s.parts)):=(cI ho).app j (fun z hz=>by
    by_cases e:showP s.names s.parts=[]
    ·rw[e];exact hz.ne
    ·exact(ph hsd e q2).ne z)
   exact⟨e1.app ((cI hc).mono (fun z hz=>hz.ne)) (fun z _=>jv cr c6),o,joinG sep (showP s.names s.parts)++[c],rfl,o6⟩
  apply sp<;>intro k6
  ·rw[N6 (.inl k6)]at f1;unfold dm at f1;simp only[N4,Ng]at f1;obtain⟨q1,q2⟩:=kG (H:=fun p=>sz p<=n/\allS bc p=true) ih s.names s.parts f1.2.1.2 hps;exact brk 123 125 [44,32] [(6,[44])] (by decide) (by decide) (by decide) (by decide) (by decide) (du (by decide)) (fun z=>jv (by decide) (by decide)) q1 q2 ⟨44,[32],rfl,by decide⟩
  apply sp<;>intro k7
  ·rw[N6 (.inr k7)]at f1;unfold dm at f1;simp only[N4,Ng]at f1;obtain⟨q1,q2⟩:=kG (H:=fun p=>sz p<=n/\allS bc p=true) ih s.names s.parts f1.2.1.2 hps;have bar:Pf fF [32,124,32] ([]++[(6,[124])]):=gu.app (du (x:=124) (by decide)) (fun z _=>trivial);exact brk 60 62 [32,124,32] [(6,[124])] (by decide) (by decide) (by decide) (by decide) (by decide) bar (fun z=>jv (by decide) (by decide)) q1 q2 ⟨32,[124,32],rfl,by decide⟩
  rw[N3 (by simp[k6,k7])]at f1;apply sp<;>intro k8
  ·rw[N6 k8]at f1;simp only[N4,Np,N8,Ns]at f1;obtain⟨q1,q2⟩:=kG (H:=fun p=>sz p<=n/\allS bc p=true) ih s.names s.parts (bare f1.1.2) hps;have hne:showP s.names s.parts≠[]:=fun e=>f1.2 (Ni (by rw[<-lp,e];rfl));have hnt:toksP s.names s.parts≠[]:=fun e=>f1.2 (Ni (by rw[<-lt,e];rfl));generalize showP s.names s.parts=xs at q1 q2 hne lp⊢;generalize toksP s.names s.parts=us at q1 hnt lt⊢;have hl:xs.length=us.length:=by rw[lp,lt]
   have hpos:=O2.2 hne
   have j:Pc (joinG [44,32] xs.dropLast) (joinG [(6,[44])] us.dropLast):=xc (du (by decide)) (fun z=>jv (by decide) (by decide)) _ _ (by simp[hl]) (fun i hi hk=>by
    simp only[List.getElem_dropLast];exact q1 i (by simp at hi;omega) (by simp at hk;omega))
   have e1:Pc ([40]++joinG [44,32] xs.dropLast) ([(6,[40])]++joinG [(6,[44])] us.dropLast):=(cI (x:=40) (by decide)).app j (fun z hz=>by
    by_cases e:xs.dropLast=[]
    ·rw[e];exact hz.ne
    ·exact(ph (sep:=[44,32]) ⟨44,[32],rfl,by decide⟩ e (fun x hx=>q2 x (PW _ hx))).ne z)
   have ar:Pf fF [41,32,45,62,32] ([(6,[41])]++([(6,[45,62])]++[])):=(du (x:=41) (by decide)).app (zm.app gu (fun z _=>trivial)) (fun z _=>trivial);have e2:Pf fF ([40]++joinG [44,32] xs.dropLast++[41,32,45,62,32]) ([(6,[40])]++joinG [(6,[44])] us.dropLast++[(6,[41]),(6,[45,62])]):=e1.app ar (fun z _=>jv (by decide) (by decide))
   have last:Pc (xs.getLastD []) (us.getLastD []):=by
    have h1:xs.getLastD []=xs[xs.length-1]'(by omega):=by rw[Oq,Px,N9 (by omega)];rfl
    have h2:us.getLastD []=us[xs.length-1]'(by omega):=by rw[Oq,Px,N9 (by omega)];simp[hl]
    rw[h1,h2];exact q1 _ _ _
   exact⟨e2.app last (fun z _=>trivial),40,joinG [44,32] xs.dropLast++[41,32,45,62,32]++xs.getLastD [],by simp,by decide⟩
  rw[N3 k8]at f1;have nm:∀{x:Str},aG x=true->Hd x:=fun h=>by unfold aG at h;rw[N4]at h;exact pg h.1
  have f2:cW s.name=true/\(s.pkg=[]∨aG s.pkg=true):=by
   by_cases k9:s.kind=9
   ·rw[N6 k9]at f1;simp only[N4,NW,N8]at f1;exact⟨f1.1.1.1,f1.1.1.2.elim (fun h=>.inl h.1) .inr⟩
   rw[N3 k9]at f1;by_cases k10:s.kind=10
   ·rw[N6 k10]at f1;simp only[N4,N8]at f1;exact⟨f1.1.1.1,.inr f1.1.1.2⟩
   rw[N3 k10]at f1;cases f1
  refine sp (fun k=>up f2.1) (fun k=>?_);have g:=f2.2.resolve_left k;have e1:Pf NeZ (s.pkg++[47]) ([(1,s.pkg)]++[(6,[47])]):=(fI g).app (cI (x:=47) (by decide)) (fun z _=>jv (by decide) (by decide));obtain⟨y,r,hy,h2⟩:=nm g;exact⟨e1.app (pe f2.1) (fun z _=>(pg (f:=bM) f2.1).ne z),y,r++[47]++s.name,by rw[hy];simp,h2⟩
end
end Go.Pd
end
section
namespace Go.AL
variable [Tabs]
open Go.Proofs Go.Shelf Go.RowKit
variable {P:Program} {ρ:Ren}
def xe(g:Nat):Prop:=∃t fz,Tabs.obj g (.cells (Lib.pow10Tab.map fun z=>Value.int .u64 z).toArray t fz)
theorem VL.one_int{Ω:Om}{n:Int}{vs:List Value}(h:VL Ω [.int .i64 n] vs):vs=[.int .i64 n]/\-9223372036854775808<=n/\n<=9223372036854775807:=by
 obtain⟨v,rfl,k⟩:=VL.one_inv h
 cases k with|int _ _ h1 h2=>exact⟨rfl,h1,h2⟩
theorem BS{f g:Nat}(L:LaysM.n171 P ρ)(hg:P.globalNamed "internal/strconv.uint64pow10"=some g)(hp:xe g)(hf:ρ.f 171=f)(he:aw P f) :
  ae P f (p1 (.int .i64) fun n=>⟨some ((Lib.itoa n).length<=1000),none,.str (Lib.itoa n),[]⟩):=by
 subst hf;refine bX he fun n _ ho=>?_;have hl:=ho _ rfl;obtain ⟨t,fz,hb⟩:=hp;refine eh fun w pub vs ht hv=>?_;obtain ⟨rfl,h0,h1⟩:=VL.one_int hv;have htab:Lib.TabIs P w "internal/strconv.uint64pow10" .u64 Lib.pow10Tab:=by unfold Lib.TabIs World.var?;rw [hg];show (match w.heap[g]? with | some (.cells cs _ _)=>some cs | _=>none)=_;rw [(ht.2 g _ hb).1]
 refine(Any.strconv_Itoa L n h0 h1 w htab).mono ?_;rintro en w' ⟨rfl,k,os,rfl⟩;exact⟨⟨_,rfl,fun Ω=>.str _ (NG hl (by unfold cm;decide))⟩,Lib.below_grow _ w (Nf _) k os⟩
theorem After.read{w w':World}{pub:Nat->Nat->Prop}{e:Nat->Option CObj}{S:List (Nat×SObj)}
 (hp:kh w pub)(hs:∀id o,aE S id=some o->bH ⟨e,w,pub⟩ (fun _ _=>True) id o)(hd:∀id,aE S id=none->e id=none)(hi:Inj e)(hb:Below w.heap.size w w'):After w pub e (aE (putB S [])) w' pub e:=by
 have blk:∀{id c b o},e id=some c->occ c b o->b<w.heap.size:=by
  intro id c b o hc ho
  cases hg:aE S id with
  |none=>rw[hd id hg]at hc;cases hc
  |some ob=>exact(hs id ob hg).blk (Ω:=⟨e,w,pub⟩) hc ho
 have hcell:∀b o,pub b o->w'.cell? ⟨b,o,none⟩=w.cell? ⟨b,o,none⟩:=fun b o h=>by obtain⟨v,hv⟩:=hp b o h;exact aF (hb.block b (b7 hv)) o
 have hx:Ext ⟨e,w,pub⟩ ⟨e,w',pub⟩:=⟨fun id c h=>⟨c,h,CLe.refl c⟩,fun _ _ h=>h,hcell⟩
 exact⟨hb.os,hb.tape,hb.output,hb.size,fun b h _=>hb.block b h,fun b o h _=>aF (hb.block b h) o,fun b h _=>⟨bZ (hb.block b h),fun o=>bC (hb.block b h) o⟩,hx,fun _ _ h=>.inl h,
  fun b o h=>by obtain⟨v,hv⟩:=hp b o h;exact⟨v,(hcell b o h).trans hv⟩,
  fun id o ho=>((hs id o ho).keep hx rfl (fun c hc=>pK.of_blocks fun b o ho=>⟨hb.block b (blk hc ho),fun _ p=>p⟩)).own_of (fun c b o hc ho=>.inr ⟨id,c,hc,ho⟩),hd,hi⟩
theorem o9(sep:Str):∀l:List Str,Lib.join l sep=Go.Pd.joinG sep l
 |[]=>rfl
 |[x]=>Lib.join_one x sep
 |x::y::r=>by rw[Go.Pd.joinG_two,<-o9 sep (y::r),Lib.join_cons,Lib.join_cons,Lib.joinTail];simp[Nl];rfl
theorem tw(L:Lays.n156 P ρ)(X:Builder.Extra P ρ)(l:List Str)(sep:Str)(a:Option Addr)(c:Nat)(w:World)(hc:l.length<=c)(h1:l.length<=140737488355328)(h2:(Go.Pd.joinG sep l).length<=140737488355328)
 (h:l=[]∨∃b o,a=some ⟨b,o,none⟩/\b<w.heap.size/\∀(i:Nat) x,l[i]?=some x->w.cell? ⟨b,o+i,none⟩=some (.string ⟨x.toArray⟩)) :
  Calls P (ρ.f 156) #[.slice a l.length c,.string ⟨sep.toArray⟩] w fun e w'=>e=.returned (.string ⟨(Go.Pd.joinG sep l).toArray⟩)/\Below w.heap.size w w':=by
 rcases h with rfl|⟨b,o,rfl,hb,hcell⟩
 ·refine(Any.strings_Join_none L X a c ⟨sep.toArray⟩ w).mono ?_;rintro e w' ⟨rfl,rfl⟩;exact⟨rfl,Below.refl _ _⟩
 ·have e1:((l.map fun s:Str=>(⟨s.toArray⟩:ByteArray)).map fun x:ByteArray=>x.data.toList)=l:=by rw[Q5];exact List.map_id _
  have e2:(⟨sep.toArray⟩:ByteArray).data.toList=sep:=rfl
  have:=Any.strings_Join L X b o c (l.map fun s:Str=>(⟨s.toArray⟩:ByteArray)) ⟨sep.toArray⟩ w (fun j x hx=>by
   rw[NM]at hx
   cases hy:l[j]? with
   |none=>rw[hy]at hx;cases hx
   |some y=>rw[hy]at hx;cases hx;exact hcell j y hy) hb (by simpa using h1) (by simpa using hc) (by rw[e1,e2,o9];exact h2)
  rw[e1,e2,o9,Oc]at this;exact this
theorem BT(L:Lays.n156 P ρ)(X:Builder.Extra P ρ)(l:List Str)(sep:Str){ob:Option Prop}(h1:l.length<=140737488355328)(h2:(Go.Pd.joinG sep l).length<=140737488355328):ax P (ρ.f 156) [.lst .str l none,.str sep] [] ⟨ob,none,.str (Go.Pd.joinG sep l),[]⟩:=by
 refine eh fun w pub vs ht hv=>?_;obtain⟨v1,v2,rfl,hv1,hv2⟩:=VL.two_inv hv;obtain⟨rfl,_⟩:=hv2.str_inv
 have fin:∀{a:Option Addr} {c:Nat},v1=.slice a l.length c->l.length<=c->(l=[]∨∃b o,a=some ⟨b,o,none⟩/\b<w.heap.size/\∀(i:Nat) x,l[i]?=some x->w.cell? ⟨b,o+i,none⟩=some (.string ⟨x.toArray⟩))->
   Calls P (ρ.f 156) [v1,.string ⟨sep.toArray⟩].toArray w fun e w'=>(∃v,e=.returned v/\∀Ω,V Ω (.str (Go.Pd.joinG sep l)) v)/\Below w.heap.size w w':=fun{a c} hv hc hw=>by
  subst hv;refine(tw L X l sep a c w hc h1 h2 hw).mono ?_;rintro e w' ⟨rfl,hb⟩;exact⟨⟨_,rfl,fun Ω=>.str _ (NG h2 (by unfold cm;decide))⟩,hb⟩
 cases hv1 with
 |lstNil _ _ tok=>exact fin rfl (Nf _) (.inl rfl)
 |lstVoid _ a=>exact fin rfl (Nf _) (.inl rfl)
 |lst _ _ _ b off cap vals c1 c2 tok hcell hval=>
  refine fin rfl c1 ?_;have at_:∀(i:Nat) x,l[i]?=some x->w.cell? ⟨b,off+i,none⟩=some (.string ⟨x.toArray⟩):=fun i x hx=>by obtain⟨_,k1⟩:=hcell i x hx 0 (.str x) rfl;obtain⟨k2,_⟩:=(hval i x hx 0 (.str x) rfl).str_inv;rw[k2,show off+(i *ag .str+0)=off+i by rw[show ag .str=1 from rfl];omega]at k1;exact k1
  cases l with|nil=>exact .inl rfl|cons x r=>exact .inr ⟨b,off,rfl,b7 (at_ 0 x rfl),at_⟩
theorem zo(L:Lays.n156 P ρ)(X:Builder.Extra P ρ)(l:List Str)(sep:Str){ob:Option Prop}(h1:l.length<=140737488355328)(h2:(Go.Pd.joinG sep l).length<=140737488355328):ax P (ρ.f 156) [.arr 900 l.length 1,.str sep] [(900,.box (.row .str l))] ⟨ob,none,.str (Go.Pd.joinG sep l),[]⟩:=by
 intro w pub e vs hp ht hv hs hd hi;obtain⟨v1,v2,rfl,hv1,hv2⟩:=VL.two_inv hv;obtain⟨rfl,_⟩:=hv2.str_inv;obtain⟨b,off,he,hpart⟩:=hs 900 _ rfl
 cases hv1 with
 |arr _ _ _ b' len cap a he' hn hcap hmax ha=>
 have he2:e 900=some (.box b off (aa (.row .str l)).length):=he;have he3:e 900=some (.box b' 0 len):=he';rw[he2]at he3
 obtain⟨rfl,rfl,rfl⟩:b=b'/\off=0/\(aa (.row .str l)).length=len:=by
  have:=O1 he3;injection this with q1 q2 q3
  exact⟨q1,q2,q3⟩
 have at_:∀(i:Nat) x,l[i]?=some x->w.cell? ⟨b,0+i,none⟩=some (.string ⟨x.toArray⟩):=fun i x hx=>by obtain⟨_,_,_,v,k1,k2⟩:=hpart i (.str x) (by rw[nX,NM,hx];rfl);rw[k2.str_inv.1]at k1;exact k1
 have hw:l=[]∨∃b o,a=some ⟨b,o,none⟩/\b<w.heap.size/\∀(i:Nat) x,l[i]?=some x->w.cell? ⟨b,o+i,none⟩=some (.string ⟨x.toArray⟩):=by
  cases l with
  |nil=>exact .inl rfl
  |cons x r=>
   rcases ha with rfl|⟨_,q,_⟩
   ·exact .inr ⟨b,0,rfl,b7 (at_ 0 x rfl),at_⟩
   ·simp at q
 refine(tw L X l sep a cap w hcap h1 h2 hw).mono ?_;rintro en w' ⟨rfl,hb⟩;exact⟨pub,e,fun _ _ _ h=>(by cases h),.str _ (NG h2 (by unfold cm;decide)),After.read hp hs hd hi hb⟩
def xf:Pat:=fun args S=>
 match args,S with
 |[a,.str sep],[]=>(match arg (.lst .str) a with|some l=>some ⟨some (l.length<=140737488355328/\(Go.Pd.joinG sep l).length<=140737488355328),none,.str (Go.Pd.joinG sep l),[]⟩|none=>none)
 |[.arr 900 n 1,.str sep],[(900,.box (.row .str l))]=>some ⟨some (n=l.length/\l.length<=140737488355328/\(Go.Pd.joinG sep l).length<=140737488355328),none,.str (Go.Pd.joinG sep l),[]⟩
 |_,_=>none
theorem BU{f:Nat}(L:Lays.n156 P ρ)(X:Builder.Extra P ρ)(hf:ρ.f 156=f)(he:aw P f):ae P f xf:=by
 subst hf;intro args S A hA hob _;unfold xf at hA;split at hA
 ·split at hA
  ·rename_i hx;cases hA;obtain⟨o1,o2⟩:=hob _ rfl;exact⟨he,ax.args (.cons (Rd.arg hx) (.cons (Rd.refl _) .nil)) (BT L X _ _ o1 o2)⟩
  ·cases hA
 ·cases hA;obtain⟨rfl,o1,o2⟩:=hob _ rfl;exact⟨he,zo L X _ _ o1 o2⟩
 ·cases hA
end Go.AL
end
section
namespace Go.Proofs
open Go.Shelf
def Tryz.lays156_ren:Go.Shelf.Ren:=⟨fun|156=>93|167=>159|165=>155|166=>156|169=>157|240=>203|241=>204|276=>231|277=>232|n=>n,fun|31=>25|9=>9|3=>3|4=>4|0=>0|20=>20|72=>152|76=>156|70=>149|37=>150|75=>155|127=>198|164=>207|5=>5|80=>158|n=>n,fun|n=>n⟩
theorem Tryz.lays156:Go.Proofs.Lays.n156 Tryz.prog Tryz.lays156_ren:={
 mixed:=by kernel_rfl
 f156:=Xt Tryz.func93
 f165:=Xt Tryz.func155
 f166:=Xt Tryz.func156
 f169:=Xt Tryz.func157
 f240:=Xt Tryz.func203
 f241:=Xt Tryz.func204
 f276:=Xt Tryz.func231
 f277:=Xt Tryz.func232
 t0:=Tryz.underlying0
 a0:=Tryz.isAgg0
 z0:=Tryz.sizeOf0
 v0:=Tryz.zeroValue0
 t3:=Tryz.underlying3
 a3:=Tryz.isAgg3
 z3:=Tryz.sizeOf3
 v3:=Tryz.zeroValue3
 t4:=Tryz.underlying4
 a4:=Tryz.isAgg4
 z4:=Tryz.sizeOf4
 v4:=Tryz.zeroValue4
 t9:=Tryz.underlying9
 a9:=Tryz.isAgg9
 z9:=Tryz.sizeOf9
 v9:=Tryz.zeroValue9
 t20:=Tryz.underlying20
 a20:=Tryz.isAgg20
 z20:=Tryz.sizeOf20
 v20:=Tryz.zeroValue20
 t31:=Tryz.underlying25
 a31:=Tryz.isAgg25
 z31:=Tryz.sizeOf25
 v31:=Tryz.zeroValue25
 t37:=Tryz.underlying150
 a37:=Tryz.isAgg150
 z37:=Tryz.sizeOf150
 v37:=Tryz.zeroValue150
 t70:=Tryz.underlying149
 a70:=Tryz.isAgg149
 z70:=Tryz.sizeOf149
 v70:=Tryz.zeroValue149
 t72:=Tryz.underlying152
 a72:=Tryz.isAgg152
 z72:=Tryz.sizeOf152
 v72:=Tryz.zeroValue152
 t75:=Tryz.underlying155
 a75:=Tryz.isAgg155
 z75:=Tryz.sizeOf155
 v75:=Tryz.zeroValue155
 t76:=Tryz.underlying156
 a76:=Tryz.isAgg156
 z76:=Tryz.sizeOf156
 v76:=Tryz.zeroValue156
 t127:=Tryz.underlying198
 a127:=Tryz.isAgg198
 z127:=Tryz.sizeOf198
 v127:=Tryz.zeroValue198
 t164:=Tryz.underlying207
 a164:=Tryz.isAgg207
 z164:=Tryz.sizeOf207
 v164:=Tryz.zeroValue207}
def Tryz.lays169_ren:Go.Shelf.Ren:=⟨fun|169=>157|n=>n,fun|70=>149|9=>9|0=>0|72=>152|37=>150|127=>198|3=>3|5=>5|n=>n,fun|n=>n⟩
theorem Tryz.lays169:Go.Proofs.Lays.n169 Tryz.prog Tryz.lays169_ren:={
 mixed:=by kernel_rfl
 f169:=Xt Tryz.func157
 t0:=Tryz.underlying0
 a0:=Tryz.isAgg0
 z0:=Tryz.sizeOf0
 v0:=Tryz.zeroValue0
 t3:=Tryz.underlying3
 a3:=Tryz.isAgg3
 z3:=Tryz.sizeOf3
 v3:=Tryz.zeroValue3
 t9:=Tryz.underlying9
 a9:=Tryz.isAgg9
 z9:=Tryz.sizeOf9
 v9:=Tryz.zeroValue9
 t37:=Tryz.underlying150
 a37:=Tryz.isAgg150
 z37:=Tryz.sizeOf150
 v37:=Tryz.zeroValue150
 t70:=Tryz.underlying149
 a70:=Tryz.isAgg149
 z70:=Tryz.sizeOf149
 v70:=Tryz.zeroValue149
 t72:=Tryz.underlying152
 a72:=Tryz.isAgg152
 z72:=Tryz.sizeOf152
 v72:=Tryz.zeroValue152
 t127:=Tryz.underlying198
 a127:=Tryz.isAgg198
 z127:=Tryz.sizeOf198
 v127:=Tryz.zeroValue198}
def Tryz.lays171_ren:Go.Shelf.Ren:=⟨fun|171=>94|243=>158|246=>205|283=>233|284=>234|285=>235|286=>236|129=>257|317=>256|318=>258|319=>259|320=>260|337=>281|338=>282|n=>n,fun|3=>3|9=>9|2=>2|4=>4|171=>210|0=>0|53=>211|37=>150|5=>5|173=>214|212=>238|51=>239|20=>20|213=>240|46=>228|232=>268|233=>269|n=>n,fun|17=>3|18=>6|19=>7|n=>n⟩
theorem Tryz.lays171:Go.Proofs.LaysM.n171 Tryz.prog Tryz.lays171_ren:={
 mixed:=by kernel_rfl
 f129:=Xt Tryz.func257
 f171:=Xt Tryz.func94
 f243:=Xt Tryz.func158
 f246:=Xt Tryz.func205
 f283:=Xt Tryz.func233
 f284:=Xt Tryz.func234
 f285:=Xt Tryz.func235
 f286:=Xt Tryz.func236
 f317:=Xt Tryz.func256
 f318:=Xt Tryz.func258
 f319:=Xt Tryz.func259
 f320:=Xt Tryz.func260
 f337:=Xt Tryz.func281
 f338:=Xt Tryz.func282
 t0:=Tryz.underlying0
 a0:=Tryz.isAgg0
 z0:=Tryz.sizeOf0
 v0:=Tryz.zeroValue0
 t2:=Tryz.underlying2
 a2:=Tryz.isAgg2
 z2:=Tryz.sizeOf2
 v2:=Tryz.zeroValue2
 t3:=Tryz.underlying3
 a3:=Tryz.isAgg3
 z3:=Tryz.sizeOf3
 v3:=Tryz.zeroValue3
 t4:=Tryz.underlying4
 a4:=Tryz.isAgg4
 z4:=Tryz.sizeOf4
 v4:=Tryz.zeroValue4
 t5:=Tryz.underlying5
 a5:=Tryz.isAgg5
 z5:=Tryz.sizeOf5
 v5:=Tryz.zeroValue5
 t9:=Tryz.underlying9
 a9:=Tryz.isAgg9
 z9:=Tryz.sizeOf9
 v9:=Tryz.zeroValue9
 t20:=Tryz.underlying20
 a20:=Tryz.isAgg20
 z20:=Tryz.sizeOf20
 v20:=Tryz.zeroValue20
 t37:=Tryz.underlying150
 a37:=Tryz.isAgg150
 z37:=Tryz.sizeOf150
 v37:=Tryz.zeroValue150
 t46:=Tryz.underlying228
 a46:=Tryz.isAgg228
 z46:=Tryz.sizeOf228
 v46:=Tryz.zeroValue228
 t51:=Tryz.underlying239
 a51:=Tryz.isAgg239
 z51:=Tryz.sizeOf239
 v51:=Tryz.zeroValue239
 t53:=Tryz.underlying211
 a53:=Tryz.isAgg211
 z53:=Tryz.sizeOf211
 v53:=Tryz.zeroValue211
 t171:=Tryz.underlying210
 a171:=Tryz.isAgg210
 z171:=Tryz.sizeOf210
 v171:=Tryz.zeroValue210
 t173:=Tryz.underlying214
 a173:=Tryz.isAgg214
 z173:=Tryz.sizeOf214
 v173:=Tryz.zeroValue214
 t212:=Tryz.underlying238
 a212:=Tryz.isAgg238
 z212:=Tryz.sizeOf238
 v212:=Tryz.zeroValue238
 t213:=Tryz.underlying240
 a213:=Tryz.isAgg240
 z213:=Tryz.sizeOf240
 t232:=Tryz.underlying268
 a232:=Tryz.isAgg268
 z232:=Tryz.sizeOf268
 v232:=Tryz.zeroValue268
 t233:=Tryz.underlying269
 a233:=Tryz.isAgg269
 z233:=Tryz.sizeOf269
 v233:=Tryz.zeroValue269
 g17:=by kernel_rfl
 g18:=by kernel_rfl
 g19:=by kernel_rfl
 i0:=by kernel_rfl
 i2:=by kernel_rfl
 i3:=by kernel_rfl
 i4:=by kernel_rfl
 i5:=by kernel_rfl
 i9:=by kernel_rfl
 i20:=by kernel_rfl
 i37:=by kernel_rfl
 i46:=by kernel_rfl
 i51:=by kernel_rfl
 i53:=by kernel_rfl
 i171:=by kernel_rfl
 i173:=by kernel_rfl
 i212:=by kernel_rfl
 i232:=by kernel_rfl
 i233:=by kernel_rfl
 m17:=by kernel_rfl
 m18:=by kernel_rfl
 m19:=by kernel_rfl}
end Go.Proofs
end
section
namespace Go.AL.Seat
open Go Go.AL Go.Proofs Go.Shelf Go.Pd
theorem DF:Builder.Extra Tryz.prog Tryz.lays156_ren:={
 sizeBuilder:=by kernel_rfl
 liesBuilder:=by kernel_rfl
 t5:=Tryz.underlying5
 a5:=Tryz.isAgg5
 z5:=Tryz.sizeOf5
 v5:=Tryz.zeroValue5
 infoByte:=by kernel_rfl
 cellsByte:=by kernel_rfl
 sizeByte:=by kernel_rfl
 neB5:=by decide}
theorem Mx:Builder.Extra Tryz.prog Tryz.lays169_ren:={
 sizeBuilder:=by kernel_rfl
 liesBuilder:=by kernel_rfl
 t5:=Tryz.underlying5
 a5:=Tryz.isAgg5
 z5:=Tryz.sizeOf5
 v5:=Tryz.zeroValue5
 infoByte:=by kernel_rfl
 cellsByte:=by kernel_rfl
 sizeByte:=by kernel_rfl
 neB5:=by decide}
section
variable [Tabs]
theorem Lf:WL Tryz.prog Tryz.lays156_ren:={Tryz.lays156 with}
theorem Lg:CC Tryz.prog Tryz.lays156_ren:=CC.of {Tryz.lays156 with} DF.toX72
theorem My:WB Tryz.prog Tryz.lays156_ren:={Tryz.lays156 with f167:=Xt Tryz.func159}
end
class SeatPow[Tabs]:Prop where
 pow:xe 3
variable [Tabs]
theorem uJ:ae Tryz.prog 159 (qa 152 5):=wZ Lf My Lg DF rfl rfl rfl (aw.mk' Tryz.func159 (by kernel_rfl))
theorem EN:ae Tryz.prog 156 (sy 152 5):=yu Lf Lg DF rfl rfl rfl (aw.mk' Tryz.func156 (by kernel_rfl))
theorem BV:ae Tryz.prog 157 (pX 152 5):=wG Tryz.lays169 Mx rfl rfl rfl (aw.mk' Tryz.func157 (by kernel_rfl))
theorem tx:ae Tryz.prog 93 xf:=BU Tryz.lays156 DF rfl (aw.mk' Tryz.func93 (by kernel_rfl))
variable [SeatPow]
theorem I0:ae Tryz.prog 94 (p1 (.int .i64) fun n=>⟨some ((Lib.itoa n).length<=1000),none,.str (Lib.itoa n),[]⟩):=BS Tryz.lays171 (by kernel_rfl) SeatPow.pow rfl (aw.mk' Tryz.func94 (by kernel_rfl))
end Go.AL.Seat
end
