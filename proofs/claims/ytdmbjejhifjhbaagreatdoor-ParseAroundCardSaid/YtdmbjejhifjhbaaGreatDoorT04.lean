/- Plain facts. The layer: Go code as conditions, and that they are sound. What the functions' conditions say, proved. No condition. -/
import Derived.Test.YtdmbjejhifjhbaaGreatDoorT03
import Derived.Deep.DeepWitnessRowRef
import Derived.Lib.DecodeN
import Derived.Lib.LaidIn
import Derived.Lib.LaidU8T
import Derived.LoopIn
import Derived.LoopNIn
import Derived.OwnWalkIn
import Derived.PinnedBridge
import Derived.ProofKit
import Derived.RangeFuncBox
import Derived.RangeFuncLeaves
import Derived.Recover
import Derived.Shelf.SlIter.Sorted
import Derived.Shelf.Slices.CompactS
import Derived.Shelf.Small.Strs
import Derived.Shelf.Sort.Plain
import Derived.Shelf.Strconv.Atoi
import Derived.Shelf.Strings.Cut
import Derived.Shelf.Strings.Search3
import Derived.Shelf.Strings.SlTrimAscii
import Derived.Shelf.Strings.Split
import Derived.Shelf.Unicode.DecodeAny
import Derived.Shelf.Unicode.ValidAny
import Derived.Shelf.Vars
import Derived.TacticsInMore
import Derived.Test.YtdmbjejhifjhbaaGreatDoorCards
import Derived.Test.YtdmbjejhifjhbaaGreatDoorProg
import Derived.Test.YtdmbjejhifjhbaaGreatDoorTie
import Derived.WalkKit
set_option linter.all false
set_option maxRecDepth 100000
section
namespace Go.Pd
open Go.AL
theorem cE{pr:Int->Bool}{s:Str}{a:Int}(h0:0<=a)(h1:a<(s.length:Int))(h:pr (bI (s.getD a.toNat 0))=true):ao pr s a=1+ao pr s (a+1):=by
 unfold ao;have hk:a.toNat<s.length:=by omega
 rw[aT s a.toNat 0 hk,ID,h];have e:(a+1).toNat=a.toNat+1:=by omega
 simp only[Ia,HJ,e];omega
theorem iT{pr:Int->Bool}{s:Str}{a:Int}(h0:0<=a)(h1:a<(s.length:Int))(h:pr (bI (s.getD a.toNat 0))=false):ao pr s a=0:=by
 unfold ao;have hk:a.toNat<s.length:=by omega
 rw[aT s a.toNat 0 hk,ID,h];simp
theorem jW{pr:Int->Bool}{s:Str}{a:Int}(h1:(s.length:Int)<=a):ao pr s a=0:=by unfold ao;rw[IE (by omega)];simp
theorem cG{pr:Int->Bool}{s:Str}{a:Int}(h0:0<=a)(h1:a<=(s.length:Int)):a+(ao pr s a:Int)<=(s.length:Int):=by
 have h:ao pr s a<=(s.drop a.toNat).length:=by unfold ao;exact(List.takeWhile_sublist _).length_le
 rw[Ih]at h;omega
theorem eA{s:Str}{a:Int}(h:a<(s.length:Int)):bAt s a=bI (s.getD a.toNat 0):=by unfold bAt;rw[Hj h]
theorem lx{s:Str}{a:Int}(h:(s.length:Int)<=a):bAt s a=0:=by unfold bAt;rw[Hh (by omega)]
theorem pc{s:Str}{a b:Int}(h0:0<=a)(h1:a<=b)(h2:b<=(s.length:Int)):((cut s a b).length:Int)=b-a:=by unfold cut;rw[Ih,J8];omega
end Go.Pd
namespace Go.Pd
open Go.AL
def oL:Str:=[48,49,50,51,52,53,54,55,56,57]
def iU(b:UInt8):Bool:=de (bI b)
def lS(s:Str):Str:=(s.reverse.dropWhile iU).reverse.dropWhile iU
def nO(s:Str)(c:Int):Int:=cu (fun b=>!decide (bI b=c)) s 0
def gM(s:Str):Nat×Nat:=if s=[]then(65533,0)else Lib.decodeN s.length (s.getD 0 0).toNat (s.getD 1 0).toNat (s.getD 2 0).toNat (s.getD 3 0).toNat
theorem lT{p:UInt8->Bool}:∀{l:Str},l.dropWhile p=[]↔l.all p=true
 |[]=>by simp
 |b::r=>by
  rw[List.dropWhile_cons];split
  ·rename_i h;rw[lT,HZ,h,HR]
  ·rename_i h;simp[h]
theorem lU{p:UInt8->Bool}:∀(l:Str),(l.dropWhile p).all p=l.all p
 |[]=>rfl
 |b::r=>by
  rw[List.dropWhile_cons];split
  ·rename_i h;rw[lU r,HZ,h,HR]
  ·rfl
theorem sr(s:Str):lS s=[]↔s.all iU=true:=by unfold lS;rw[lT,List.all_reverse,lU,List.all_reverse]
theorem Dh(s:Str):(lS s).length<=s.length:=by unfold lS;have h1:=(List.dropWhile_sublist (p:=iU) (l:=(s.reverse.dropWhile iU).reverse)).length_le;have h2:=(List.dropWhile_sublist (p:=iU) (l:=s.reverse)).length_le;rw[List.length_reverse]at h1 h2;omega
theorem mr(s:Str)(k:Nat):(s.drop k).getD 0 0=s.getD k 0:=by simp[Hl]
def B0(n b0 b1 b2 b3:Nat):Nat:=
 if b0<128 then 1
 else if b0/32=6/\(1<n/\b1/64=2)then(if b0%32 *64+b1%64≥128 then 2 else 0)
 else if b0/16=14/\(1<n/\b1/64=2)/\(2<n/\b2/64=2)then
  (if b0%16 *4096+b1%64 *64+b2%64≥2048/\(b0%16 *4096+b1%64 *64+b2%64<55296∨(57344<=b0%16 *4096+b1%64 *64+b2%64/\b0%16 *4096+b1%64 *64+b2%64<=1114111))then 3 else 0)
 else if b0/8=30/\(1<n/\b1/64=2)/\(2<n/\b2/64=2)/\(3<n/\b3/64=2)then
  (if b0%8 *262144+b1%64 *4096+b2%64 *64+b3%64≥65536/\(b0%8 *262144+b1%64 *4096+b2%64 *64+b3%64<55296∨(57344<=b0%8 *262144+b1%64 *4096+b2%64 *64+b3%64/\b0%8 *262144+b1%64 *4096+b2%64 *64+b3%64<=1114111))then 4 else 0)
 else 0
theorem vI(n b0 b1 b2 b3:Nat)(h1:b1<256)(h2:b2<256)(h3:b3<256)(h0:b0<256)(hn:1<=n) :
  ((Lib.decodeN n b0 b1 b2 b3).1=65533/\(Lib.decodeN n b0 b1 b2 b3).2=1↔B0 n b0 b1 b2 b3=0)/\(B0 n b0 b1 b2 b3≠0->(Lib.decodeN n b0 b1 b2 b3).2=B0 n b0 b1 b2 b3)/\
  (Lib.decodeN n b0 b1 b2 b3).1<=1114111/\1<=(Lib.decodeN n b0 b1 b2 b3).2/\(Lib.decodeN n b0 b1 b2 b3).2<=n:=by
 unfold Lib.decodeN B0;by_cases c1:b0<128
 ·simp only[Hj c1];refine⟨⟨fun e=>?_,fun e=>?_⟩,fun e=>?_,?_,?_,?_⟩<;>first|omega|exact⟨rfl,rfl⟩|exact Xr|exact(e rfl).elim|exact e.elim|exact(e trivial).elim|simp only at *
 simp only[Hh c1];by_cases c2:b0/32=6/\(1<n/\b1/64=2)
 ·simp only[Hj c2];by_cases d:b0%32 *64+b1%64≥128
  ·simp only[Hj d];refine⟨⟨fun e=>?_,fun e=>?_⟩,fun e=>?_,?_,?_,?_⟩<;>first|omega|exact⟨rfl,rfl⟩|exact Xr|exact(e rfl).elim|exact e.elim|exact(e trivial).elim|simp only at *
  ·simp only[Hh d];refine⟨⟨fun e=>?_,fun e=>?_⟩,fun e=>?_,?_,?_,?_⟩<;>first|omega|exact⟨rfl,rfl⟩|exact Xr|exact(e rfl).elim|exact e.elim|exact(e trivial).elim|simp only at *
 simp only[Hh c2];by_cases c3:b0/16=14/\(1<n/\b1/64=2)/\(2<n/\b2/64=2)
 ·simp only[Hj c3];by_cases d:b0%16 *4096+b1%64 *64+b2%64≥2048/\(b0%16 *4096+b1%64 *64+b2%64<55296∨(57344<=b0%16 *4096+b1%64 *64+b2%64/\b0%16 *4096+b1%64 *64+b2%64<=1114111))
  ·simp only[Hj d];refine⟨⟨fun e=>?_,fun e=>?_⟩,fun e=>?_,?_,?_,?_⟩<;>first|omega|exact⟨rfl,rfl⟩|exact Xr|exact(e rfl).elim|exact e.elim|exact(e trivial).elim|simp only at *
  ·simp only[Hh d];refine⟨⟨fun e=>?_,fun e=>?_⟩,fun e=>?_,?_,?_,?_⟩<;>first|omega|exact⟨rfl,rfl⟩|exact Xr|exact(e rfl).elim|exact e.elim|exact(e trivial).elim|simp only at *
 simp only[Hh c3];by_cases c4:b0/8=30/\(1<n/\b1/64=2)/\(2<n/\b2/64=2)/\(3<n/\b3/64=2)
 ·simp only[Hj c4];by_cases d:b0%8 *262144+b1%64 *4096+b2%64 *64+b3%64≥65536/\(b0%8 *262144+b1%64 *4096+b2%64 *64+b3%64<55296∨(57344<=b0%8 *262144+b1%64 *4096+b2%64 *64+b3%64/\b0%8 *262144+b1%64 *4096+b2%64 *64+b3%64<=1114111))
  ·simp only[Hj d];refine⟨⟨fun e=>?_,fun e=>?_⟩,fun e=>?_,?_,?_,?_⟩<;>first|omega|exact⟨rfl,rfl⟩|exact Xr|exact(e rfl).elim|exact e.elim|exact(e trivial).elim|simp only at *
  ·simp only[Hh d];refine⟨⟨fun e=>?_,fun e=>?_⟩,fun e=>?_,?_,?_,?_⟩<;>first|omega|exact⟨rfl,rfl⟩|exact Xr|exact(e rfl).elim|exact e.elim|exact(e trivial).elim|simp only at *
 simp only[Hh c4];refine⟨⟨fun e=>?_,fun e=>?_⟩,fun e=>?_,?_,?_,?_⟩<;>first|omega|exact⟨rfl,rfl⟩|exact Xr|exact(e rfl).elim|exact e.elim|exact(e trivial).elim|simp only at *
theorem vJ(c:Nat):pb c=true↔(c<55296∨(57344<=c/\c<=1114111)):=by unfold pb;simp only[Hk,Hq,HB,Jv,HI];omega
theorem B1(r:Str)(k:Nat):fJ r k=true↔(k+1<r.length+1/\(r.getD k 0).toNat/64=2):=by unfold fJ;simp only[Hk,Hq];omega
theorem Gv(b:UInt8)(r:Str):dU (b::r)=B0 (r.length+1) b.toNat (r.getD 0 0).toNat (r.getD 1 0).toNat (r.getD 2 0).toNat:=by unfold dU B0 lH;simp only[B1,vJ]
theorem ju{s:Str}(h:s≠[]):((gM s).1=65533/\(gM s).2=1↔dU s=0)/\(dU s≠0->(gM s).2=dU s)/\(gM s).1<=1114111/\1<=(gM s).2/\(gM s).2<=s.length:=by
 cases s with
 |nil=>exact absurd rfl h
 |cons b r=>
  have e:gM (b::r)=Lib.decodeN (r.length+1) b.toNat (r.getD 0 0).toNat (r.getD 1 0).toNat (r.getD 2 0).toNat:=by unfold gM;rw[Hh h];rfl
  rw[e,Gv,HJ];exact vI _ _ _ _ _ (r.getD 0 0).toNat_lt (r.getD 1 0).toNat_lt (r.getD 2 0).toNat_lt b.toNat_lt (by omega)
theorem mu:∀(f g:Nat)(x:Str)(k:Nat),x.length<=f->x.length<=g->fD f x k=fD g x k
 |0,0,_,_,_,_=>rfl
 |0,g+1,x,k,h,_=>by have e:x=[]:=Hv (by omega);subst e;simp[fD]
 |f+1,0,x,k,_,h=>by have e:x=[]:=Hv (by omega);subst e;simp[fD]
 |f+1,g+1,x,k,h1,h2=>by
  simp only[fD];split
  ·rfl
  ·rename_i hx;split
   ·rfl
   ·rename_i hn;have hl:(x.drop (dU x)).length<x.length:=by rw[Ih];have:=Ip.2 hx;omega
    exact mu f g _ _ (by omega) (by omega)
theorem ox:∀(f:Nat)(x:Str)(k j:Nat),fD f x (k+j)=(fD f x k).map (·+j)
 |0,_,_,_=>rfl
 |f+1,x,k,j=>by
  simp only[fD];split
  ·rfl
  ·split
   ·rfl
   ·rw[show k+j+dU x=k+dU x+j by omega];exact ox f _ _ j
def iC(s:Str)(a:Nat):Option Nat:=fD s.length (s.drop a) a
theorem B2{s:Str}{a:Nat}(h:s.length<=a):iC s a=none:=by unfold iC;rw[IE h];cases s.length<;>simp[fD]
theorem B3{s:Str}{a:Nat}(h:a<s.length)(hb:dU (s.drop a)=0):iC s a=some a:=by
 unfold iC;obtain⟨n,hn⟩:∃n,s.length=n+1:=⟨s.length-1,by omega⟩;have hx:s.drop a≠[]:=by intro e;have:=Jj List.length e;simp at this;omega
 rw[hn,fD,Hh hx,Hj hb]
theorem qp{s:Str}{a:Nat}(h:a<s.length)(hb:dU (s.drop a)≠0):iC s a=iC s (a+dU (s.drop a)):=by
 unfold iC;obtain⟨n,hn⟩:∃n,s.length=n+1:=⟨s.length-1,by omega⟩;have hx:s.drop a≠[]:=by intro e;have:=Jj List.length e;simp at this;omega
 rw[hn,fD,Hh hx,Hh hb,JI];refine mu _ _ _ _ ?_ ?_<;>(rw[Ih];omega)
end Go.Pd
namespace Go.Pd
open Go.AL
def u4(s:Str):Flt:=match bS s with|none=>⟨0,0⟩|some k=>⟨30,k⟩
def nc(s:Str)(k:Nat):List Int:=[if 0<k then(fb s).major else 0,if 1<k then(fb s).minor else 0,if 2<k then(fb s).patch else 0]
end Go.Pd
namespace Go.Pd
open Go.AL
theorem qt(c:Int):iK c=true↔(48<=c/\c<=57)∨(97<=c/\c<=122)∨(65<=c/\c<=90)∨c=45:=by unfold iK de cq cy;simp only[Io,Hk,Hq];omega
theorem jv{s:Str}(h:s≠[])(hz:(da s&&decide (bI (s.getD 0 0)=48)&&!decide (s=[48]))=false):fK s=s.all fun c=>iK (bI c):=by unfold fK;rw[hz,Xf h];simp
end Go.Pd
namespace Go.Pd
open Go.AL
theorem j9(c:UInt8):∀s:Str,(splitB c s).length<=s.length+1
 |[]=>by simp[splitB]
 |b::r=>by
  have ih:=j9 c r;unfold splitB;split
  ·simp only[HJ];omega
  ·split
   ·simp
   ·rename_i e;rw[e]at ih;simp only[HJ]at ih⊢;omega
theorem fZ{α:Type}{p:α->Bool}{l:List α}{k:Nat}(d:α)(hk:k<l.length)(h:(l.take k).all p=true)(hp:p (l.getD k d)=true):(l.take (k+1)).all p=true:=by rw[lg l k d hk,J2,h,HZ,hp];rfl
theorem qu{α:Type}{p:α->Bool}{l:List α}{k:Nat}(h:l.length<=k):(l.take k).all p=l.all p:=by rw[IF h]
theorem nd{α:Type}{p:α->Bool}{l:List α}{k:Nat}(d:α)(hk:k<l.length)(hp:p (l.getD k d)=false):l.all p=false:=by rw[Ik];intro e;have:=HE.1 e _ (cY l k d hk);rw[this]at hp;cases hp
def oM(n:Int):Bool:=decide (0<=n)&&decide (n<=999999)
theorem yl{v:Vers}(h:[v.major,v.minor,v.patch].all oM=false):dN v=40:=by unfold dN;rw[Hj];simp only[HZ,JW,IP,Jv,oM,HI]at h;omega
theorem vK{v:Vers}(h:[v.major,v.minor,v.patch].all oM=true):dN v=if 24<v.pre.length then 40 else if v.pre=[]then 0 else if(splitB 46 v.pre).all fK=true then 0 else 40:=by unfold dN;rw[Hh];simp only[HZ,JW,IP,Hk,oM,Hq]at h;omega
end Go.Pd
namespace Go.Pd
open Go.AL
theorem vL{s:Str}(h:¬(splitB 46 (aS s)).length=3):dO s=(noV,40):=by unfold dO;rw[Hj (.inl h)]
theorem vM{s:Str}(h:iA s=true)(k:dY s=[]):dO s=(noV,40):=by unfold dO;rw[Hj (.inr ⟨h,k⟩)]
theorem oy{s:Str}(h:(splitB 46 (aS s)).length=3)(k:iA s=true->¬dY s=[]) :
  dO s=if(splitB 46 (aS s)).all fq=true then(if dN (fb s)=0 then(fb s,0)else(noV,40))else(noV,40):=by
 unfold dO;rw[Hh];rintro(e|⟨e1,e2⟩)
 ·exact e h
 ·exact k e1 e2
theorem qv(v:Vers):dN v=0∨dN v=40:=by
 unfold dN
 repeat' split
 all_goals first|exact .inl rfl|exact .inr rfl
theorem vN{s:Str}{k:Nat}(hk:k<3):(nc s k).set k (iR ((splitB 46 (aS s)).getD k []))=nc s (k+1):=by
 match k,hk with
 |0,_=>rfl
 |1,_=>rfl
 |2,_=>rfl
theorem gx{t:Str}(h:da t=true)(hl:t.length<=15):js t:=by unfold da at h;rw[Hk]at h;refine⟨fun e=>by rw[e]at h;simp at h,hl,fun c hc=>?_⟩;have:=HE.1 h.2 c hc;unfold de bI at this;simp only[Hk,Hq]at this;omega
theorem su(s:Str):(aS s).length<=s.length:=(List.takeWhile_sublist _).length_le
end Go.Pd
namespace Go.Pd
open Go.AL
theorem qw:∀s:Str,(bh s).map (fun n=>UInt8.ofNat n.toNat)=s
 |[]=>rfl
 |b::r=>by have ih:=qw r;unfold bh at ih⊢;simp only[HN,ih];congr 1;simp
theorem jX(a b:Str):bh (a++b)=bh a++bh b:=List.map_append
theorem Di{b:Int}(h:iS b=none):nO [110,116,34,92] b<0:=by
 unfold iS at h;by_cases h1:b=110
 ·rw[Hj h1]at h;cases h
 rw[Hh h1]at h;by_cases h2:b=116
 ·rw[Hj h2]at h;cases h
 rw[Hh h2]at h;by_cases h3:b=34
 ·rw[Hj h3]at h;cases h
 rw[Hh h3]at h;by_cases h4:b=92
 ·rw[Hj h4]at h;cases h
 have e1:¬(bI 110=b):=fun e=>h1 e.symm;have e2:¬(bI 116=b):=fun e=>h2 e.symm;have e3:¬(bI 34=b):=fun e=>h3 e.symm;have e4:¬(bI 92=b):=fun e=>h4 e.symm;simp[nO,cu,e1,e2,e3,e4]
theorem Dj{b x:Int}(h:iS b=some x):0<=nO [110,116,34,92] b/\nO [110,116,34,92] b<4/\[(10:UInt8),9,34,92].getD (nO [110,116,34,92] b).toNat 0=UInt8.ofNat x.toNat:=by
 unfold iS at h;by_cases h1:b=110
 ·rw[Hj h1]at h;cases h;subst h1;decide
 rw[Hh h1]at h;by_cases h2:b=116
 ·rw[Hj h2]at h;cases h;subst h2;decide
 rw[Hh h2]at h;by_cases h3:b=34
 ·rw[Hj h3]at h;cases h;subst h3;decide
 rw[Hh h3]at h;by_cases h4:b=92
 ·rw[Hj h4]at h;cases h;subst h4;decide
 rw[Hh h4]at h;cases h
theorem ly{s:Str}{a x:Int}(h:iS (bAt s a)=some x):a<(s.length:Int):=by
 rcases JG a s.length with k|k
 ·exact k
 ·rw[lx k]at h;cases h
theorem sw{s:Str}{a:Int}(h0:¬bAt s a<32)(h1:¬bAt s a=34)(h2:¬bAt s a=92):a<(s.length:Int)/\(0<=a->1<=ao aZ s a):=by
 have hl:a<(s.length:Int):=by
  rcases JG a s.length with k|k
  ·exact k
  ·rw[lx k]at h0;omega
 refine⟨hl,fun h=>?_⟩;rw[eA hl]at h0 h1 h2
 rw[cE h hl (by
  unfold aZ;rw[Xd (by omega),Xf h1,Xf h2];rfl)]
 omega
theorem B4{x:Str}(h:bS x=none):u4 x=⟨0,0⟩:=by unfold u4;rw[h]
theorem B5{x:Str}{k:Nat}(h:bS x=some k):u4 x=⟨30,k⟩:=by unfold u4;rw[h]
theorem vO:∀(f:Nat)(x:Str)(a k:Nat),fD f x a=some k->k<=a+x.length
 |0,_,_,_,h=>by cases h
 |f+1,x,a,k,h=>by
  simp only[fD]at h;split at h
  ·cases h
  ·split at h
   ·cases h;omega
   ·rename_i h1 h2;have ih:=vO f _ _ _ h;rw[Ih]at ih;have:=(ju h1).2.1 h2;have:=(ju h1).2.2.2.2;omega
theorem B6{x:Str}{k:Nat}(h:bS x=some k):k<=x.length:=by have:=vO _ _ _ _ h;omega
end Go.Pd
namespace Go.Pd
open Go.AL
theorem Ac{s:Str}{a:Int}(h:bAt s a≠0):a<(s.length:Int):=by
 rcases JG a s.length with k|k
 ·exact k
 ·rw[lx k]at h;exact absurd rfl h
theorem dX(s:Str)(fr:Int):∀(n:Nat)(acc:Str)(c:SC),0<=c.pos->c.pos<=(s.length:Int)->
  (bZ s fr n acc c).2.2.out=c.out/\c.pos<=(bZ s fr n acc c).2.2.pos/\(bZ s fr n acc c).2.2.pos<=(s.length:Int)
 |0,acc,c,h0,h1=>⟨rfl,Iv _,h1⟩
 |n+1,acc,c,h0,h1=>by
  rw[bZ];by_cases a:bAt s c.pos<32
  ·rw[Hj a];exact⟨rfl,Iv _,h1⟩
  rw[Hh a];have hl:=Ac (s:=s) (a:=c.pos) (fun e=>by rw[e]at a;omega);by_cases b:bAt s c.pos=34
  ·rw[Hj b];exact⟨rfl,by show c.pos<=c.pos+1;omega,by show c.pos+1<=_;omega⟩
  rw[Hh b];by_cases d:bAt s c.pos=92
  ·rw[Hj d]
   cases he:iS (bAt s (c.pos+1))with
   |none=>exact⟨rfl,Iv _,h1⟩
   |some x=>have hp:=ly he;obtain⟨i1,i2,i3⟩:=dX s fr n (acc++[UInt8.ofNat x.toNat]) (bH c (c.pos+2)) (by show 0<=c.pos+2;omega) (by show c.pos+2<=_;omega);have i2':c.pos+2<=_:=i2;exact⟨i1,by simp only;omega,i3⟩
  rw[Hh d];have hw:=cG (pr:=aZ) h0 h1
  cases hb:bS (cut s c.pos (c.pos+(ao aZ s c.pos:Int)))with
  |some k=>exact⟨rfl,by show c.pos<=c.pos+(ao aZ s c.pos:Int);omega,hw⟩
  |none=>obtain⟨i1,i2,i3⟩:=dX s fr n (acc++cut s c.pos (c.pos+(ao aZ s c.pos:Int))) (bH c (c.pos+(ao aZ s c.pos:Int))) (by show 0<=c.pos+_;omega) hw;have i2':c.pos+(ao aZ s c.pos:Int)<=_:=i2;exact⟨i1,by simp only;omega,i3⟩
theorem eJ{s:Str}{c:SC}(h0:0<=c.pos)(h1:c.pos<(s.length:Int))(h:(aK s c).1=true) :
  c.pos<(aK s c).2.pos/\(aK s c).2.pos<=(s.length:Int)/\(aK s c).2.out.length=c.out.length+1:=by
 have add:∀(k:Int)(t:Str)(e:Int),c.pos<e->e<=(s.length:Int)->c.pos<(ez k t c.pos (bH c e)).2.pos/\(ez k t c.pos (bH c e)).2.pos<=(s.length:Int)/\(ez k t c.pos (bH c e)).2.out.length=c.out.length+1:=fun k t e a b=>
  ⟨a,b,by show(c.out++[_]).length=_;rw[Ho,Hm]⟩
 unfold aK at h⊢;by_cases a:cq (bAt s c.pos)=true∨cy (bAt s c.pos)=true
 ·rw[Hj a]at h⊢
  have hr:bK (bI (s.getD c.pos.toNat 0))=true:=by
   rw[eA h1]at a;unfold bK;rcases a with a|a
   ·rw[a];rfl
   ·rw[a,Jt];rfl
  have hw:=cE (pr:=bK) h0 h1 hr;have hl:=cG (pr:=bK) h0 (JX h1);unfold rL at h⊢;split at h
  ·rename_i x;rw[Hj x];exact add _ _ _ (by omega) hl
  ·rename_i x;rw[Hh x];split at h
   ·rename_i y;rw[Hj y];exact add _ _ _ (by omega) hl
   ·rename_i y;rw[Hh y];split at h
    ·rename_i z;rw[Hj z];exact add _ _ _ (by omega) hl
    ·cases h
 rw[Hh a]at h⊢;by_cases b:de (bAt s c.pos)=true
 ·rw[Hj b]at h⊢;have hr:bO (bI (s.getD c.pos.toNat 0))=true:=by rw[eA h1]at b;unfold bO;rw[b,Jt];rfl
  have hw:=cE (pr:=bO) h0 h1 hr;have hl:=cG (pr:=bO) h0 (JX h1);unfold vG at h⊢;split at h
  ·rename_i x;rw[Hj x];exact add _ _ _ (by omega) hl
  ·rename_i x;rw[Hh x];split at h
   ·rename_i y;rw[Hj y];exact add _ _ _ (by omega) hl
   ·cases h
 rw[Hh b]at h⊢;by_cases d:bAt s c.pos=34
 ·rw[Hj d]at h⊢;obtain⟨q1,q2,q3⟩:=dX s c.pos (s.length+2) [] (bH c (c.pos+1)) (by show 0<=c.pos+1;omega) (by show c.pos+1<=_;omega);have q2':c.pos+1<=(bL s c).2.2.pos:=q2;have q1':(bL s c).2.2.out=c.out:=q1;unfold vH at h⊢;split at h
  ·rename_i x;rw[Hj x];exact⟨by show c.pos<(bL s c).2.2.pos;omega,q3,by show((bL s c).2.2.out++[_]).length=_;rw[q1',Ho,Hm]⟩
  ·cases h
 rw[Hh d]at h⊢;unfold oK at h⊢;split at h
 ·rename_i x;rw[Hj x];unfold cv at x;simp only[Hk,Hq]at x;exact add _ _ _ (by omega) x.1
 ·rename_i x;rw[Hh x];split at h
  ·rename_i y;rw[Hj y];unfold cv at y;simp only[Hk,Hq]at y;exact add _ _ _ (by omega) y.1
  ·cases h
theorem iD(b:Int):iB b=true↔(b=32∨b=10∨b=9∨b=13):=by unfold iB;simp only[Io,Hq];omega
end Go.Pd
end
section
namespace Go.AL
open Go.Proofs Go.Shelf Go.RowKit Go.Pd
theorem gN{c:UInt8}:∀{s:Str},Lib.indexByte s c=-1->c∉s
 |[],_=>Jc
 |b::r,h=>by
  unfold Lib.indexByte at h;by_cases e:b=c
  ·subst e;simp at h
  ·have e':(b ==c)=false:=IT.2 e;rw[e']at h;simp only[I1,HW]at h;have hg:=Lib.indexByte_ge r c;split at h
   ·rename_i k;have:=gN (s:=r) (by simpa using k);rw[Hy,JV];exact⟨fun q=>e q.symm,this⟩
   ·omega
theorem fF{c:UInt8}:∀{s:Str},Lib.indexByte s c≠-1->∃k:Nat,Lib.indexByte s c=k/\k<s.length/\s=s.take k++c::s.drop (k+1)/\c∉s.take k
 |[],h=>absurd rfl h
 |b::r,h=>by
  unfold Lib.indexByte at h⊢;by_cases e:b=c
  ·subst e;refine⟨0,by simp,by simp,by simp,by simp⟩
  ·have e':(b ==c)=false:=IT.2 e;rw[e']at h⊢;simp only[I1,HW]at h⊢;split at h
   ·exact absurd rfl h
   ·rename_i k;obtain⟨j,j1,j2,j3,j4⟩:=fF (s:=r) (by simpa using k);rw[Hh k];refine⟨j+1,by rw[j1];rfl,by simp;omega,?_,?_⟩
    ·rw[Jh,Jf,Iu,<-j3]
    ·rw[Jh,Hy,JV];exact⟨fun q=>e q.symm,j4⟩
theorem qx{c:UInt8}:∀{s:Str},c∉s->splitB c s=[s]
 |[],_=>rfl
 |b::r,h=>by rw[Hy,JV]at h;unfold splitB;rw[Hh (fun e=>h.1 e.symm),qx h.2]
theorem lz{c:UInt8}:∀{a:Str} (r:Str),c∉a->splitB c (a++c::r)=a::splitB c r
 |[],r,_=>by rw[Hs,splitB,Hj rfl]
 |b::a,r,h=>by rw[Hy,JV]at h;rw[Iu,splitB,Hh (fun e=>h.1 e.symm),lz r h.2]
theorem qy(c:UInt8):∀(n:Nat)(s:Str),s.length<=n->Lib.splitK [c] 0 (s.count c) s=splitB c s
 |n,s,hn=>by
  by_cases h:Lib.indexByte s c=-1
  ·have hm:=gN h;rw[List.count_eq_zero.2 hm,qx hm];rfl
  ·obtain⟨k,k1,k2,k3,k4⟩:=fF h;have hc:s.count c=(s.drop (k+1)).count c+1:=by have e:=Jj (List.count c) k3;rw[List.count_append,List.count_cons_self,List.count_eq_zero.2 k4]at e;omega
   rw[hc];unfold Lib.splitK;rw[Lib.index_one,Hh (by simpa using h),k1];have hd:(k:Int).toNat+[c].length=k+1:=rfl;have ht:(k:Int).toNat+0=k:=rfl;rw[hd,ht]
   cases n with
   |zero=>omega
   |succ n=>
    rw[qy c n (s.drop (k+1)) (by rw[Ih];omega)];conv=>rhs;rw[k3]
    rw[lz _ k4]
theorem nf{c:UInt8}:∀{a:Str} (r:Str),c∉a->(a++c::r).takeWhile (fun b=>!decide (b=c))=a
 |[],r,_=>by simp
 |b::a,r,h=>by rw[Hy,JV]at h;have hb:¬b=c:=fun e=>h.1 e.symm;rw[Iu,ID];simp only[hb,IX,IV,Ia];rw[nf r h.2]
theorem rM{c:UInt8}{s:Str}(h:c∉s):s.takeWhile (fun b=>!decide (b=c))=s:=by
 induction s with
 |nil=>rfl
 |cons b r ih=>rw[Hy,JV]at h;have hb:¬b=c:=fun e=>h.1 e.symm;rw[ID];simp only[hb,IX,IV,Ia];rw[ih h.2]
theorem Dk(s:Str):Lib.cut s [45]=(aS s,dY s,iA s):=by
 unfold Lib.cut;rw[Lib.index_one];by_cases h:Lib.indexByte s 45=-1
 ·have hm:=gN h;rw[h,Hh (by decide)];have e:aS s=s:=rM hm;unfold dY iA;rw[e,IE (by omega)];simp
 ·obtain⟨k,k1,k2,k3,k4⟩:=fF h;rw[k1,Hj (by omega)]
  have e:aS s=s.take k:=by
   unfold aS;conv=>lhs;rw[k3]
   exact nf _ k4
  have hl:(s.take k).length=k:=by rw[J8];omega
  unfold dY iA;rw[e,hl];simp[k2]
theorem F8(s:Str)(c:Int)(h0:0<=c)(h1:c<=255):∀k:Nat,cu (fun b=>!decide (bI b=c)) s k=if Lib.indexByte s c.toNat.toUInt8=-1 then -1 else Lib.indexByte s c.toNat.toUInt8+k:=by
 have hb:∀b:UInt8,(bI b=c)↔b=c.toNat.toUInt8:=by
  intro b;unfold bI;constructor
  ·intro e;have:c.toNat=b.toNat:=by omega
   rw[this];simp
  ·intro e;rw[e];simp[Nat.toUInt8];omega
 induction s with
 |nil=>intro k;rfl
 |cons b r ih=>
  intro k;rw[cu];by_cases e:bI b=c
  ·have e2:=(hb b).1 e;rw[Hh (by simp[e])];unfold Lib.indexByte;rw[e2];simp
  ·have e2:(b ==c.toNat.toUInt8)=false:=IT.2 (fun q=>e ((hb b).2 q));rw[Hj (by simp[e]),ih (k+1)];have hg:=Lib.indexByte_ge r c.toNat.toUInt8;have e3:Lib.indexByte (b::r) c.toNat.toUInt8=(if b ==c.toNat.toUInt8 then 0 else if Lib.indexByte r c.toNat.toUInt8 ==-1 then -1 else Lib.indexByte r c.toNat.toUInt8+1):=rfl;rw[e3,e2];simp only[I1,HW,I3];by_cases q:Lib.indexByte r c.toNat.toUInt8=-1
   ·rw[Hj q,Hj q];rfl
   ·rw[Hh q,Hh q,Hh (by omega)];omega
theorem vP(s:Str)(c:UInt8):decide (0<=Lib.indexByte s c)=decide (c∈s):=by
 have hg:=Lib.indexByte_ge s c;rw[Ie];by_cases h:Lib.indexByte s c=-1
 ·exact⟨fun e=>by omega,fun e=>absurd e (gN h)⟩
 ·obtain⟨k,k1,k2,k3,k4⟩:=fF h;exact⟨fun _=>by rw[k3];simp,fun _=>by omega⟩
variable [Tabs] {P:Program} {ρ:Ren}
theorem Below.drawn(w:World)(n:Nat):Below w.heap.size w (w.drewN n):=⟨rfl,rfl,rfl,Hu _,fun _ _=>rfl⟩
theorem After.news{w w':World}{pub:Nat->Nat->Prop}{e:Nat->Option CObj}(hp:kz w pub)(hd:∀id,e id=none)(hb:Below w.heap.size w w'){p:Nat->Prop}(hc:∀o,p o->∃v,w'.cell? ⟨w.heap.size,o,none⟩=some v) :
  After w pub e (aD (putB [] [])) w' (fun b o=>pub b o∨(b=w.heap.size/\p o)) e where
 os:=hb.os
 tape:=hb.tape
 output:=hb.output
 size:=hb.size
 block b h _:=hb.block b h
 cell b o h _:=aF (hb.block b h) o
 kind b h _:=⟨bU (hb.block b h),fun o=>bF (hb.block b h) o⟩
 ext:=⟨fun _ c h=>⟨c,h,CLe.refl c⟩,fun _ _ h=>.inl h,fun b o h=>by obtain⟨v,hv⟩:=hp b o h;exact aF (hb.block b (bD hv)) o⟩
 fresh b o h:=by
  rcases h with h|⟨rfl,_⟩
  ·exact .inl h
  ·exact .inr (.inl (Hu _))
 ok b o h:=by
  rcases h with h|⟨rfl,h⟩
  ·obtain⟨v,hv⟩:=hp b o h;exact⟨v,(aF (hb.block b (bD hv)) o).trans hv⟩
  ·exact hc o h
 slots id o h:=by simp[putB,aD]at h
 dom id _:=hd id
 inj i j c d b o h:=by rw[hd i]at h;cases h
theorem fo{f:Nat}{args:List AV}{A:AV}{ob:Option Prop}(h:∀(w:World)(pub:Nat->Nat->Prop)(vs:List Value),j6 w pub->VL ⟨fun _=>none,w,pub⟩ args vs->Calls P f vs.toArray w fun e w'=>(∃v,e=.returned v/\∀Ω,V Ω A v)/\Below w.heap.size w w') :
  ay P f args [] ⟨ob,none,A,[]⟩:=by
 intro w pub e vs hp ht hv hs hd hi;have he:e=fun _=>none:=funext fun id=>hd id rfl;subst he;refine(h w pub vs ht hv).mono ?_;rintro en w' ⟨⟨v,rfl,hV⟩,hb⟩;exact⟨pub,_,And.intro (fun b pv u h=>by cases h) (And.intro (hV _) (After.below hp (fun _=>rfl) hb))⟩
theorem VL.two_str{Ω:Om}{a b:Str}{vs:List Value}(h:VL Ω [.str a,.str b] vs):vs=[.string ⟨a.toArray⟩,.string ⟨b.toArray⟩]/\a.length<=cn/\b.length<=cn:=by obtain⟨v1,v2,rfl,h1,h2⟩:=VL.two_inv h;obtain⟨rfl,l1⟩:=h1.str_inv;obtain⟨rfl,l2⟩:=h2.str_inv;exact⟨rfl,l1,l2⟩
def F9:Pat:=p2 .str .str fun a b=>⟨some (b=oL),none,.str (lS a),[]⟩
set_option maxRecDepth 100000 in
theorem Dl(b:UInt8):oL.contains b=iU b:=by
 have h:∀b:Fin 256,oL.contains (UInt8.ofNat b.val)=iU (UInt8.ofNat b.val):=by decide
 have:=h ⟨b.toNat,b.toNat_lt⟩;simpa using this
theorem ym{f:Nat}(L:Lays.n160 P ρ)(h116:(P.info? (ρ.t 116)).map (fun i=>(i.zero,i.size))=some (some (.agg (Array.replicate 256 (.bool false))),256))(hf:ρ.f 160=f)(he:az P f):ah P f F9:=by
 subst hf;refine gu he fun a b _ _ ho=>?_;have hb:=ho _ rfl;subst hb;refine fo fun w pub vs _ hv=>?_;obtain⟨rfl,l1,l2⟩:=VL.two_str hv;have l1':a.length<=9223372036854775807:=l1;refine(Any.strings_Trim_laid L h116 ⟨a.toArray⟩ ⟨oL.toArray⟩ w (by simpa[ByteArray.size]using l1') (by decide) (fun j b hj=>?_)).mono ?_
 ·have hd:∀b∈oL,b.toNat<128:=by decide
  exact hd b (HO hj)
 ·rintro en w' ⟨rfl,hb⟩;refine⟨⟨_,rfl,fun Ω=>?_⟩,hb⟩;have e:Lib.trimS a oL=lS a:=by have ef:(fun b=>oL.contains b)=iU:=funext Dl;unfold Lib.trimS Lib.trimLeftS Lib.trimRightS lS;rw[ef]
  have e2:(⟨a.toArray⟩:ByteArray).data.toList=a:=rfl;have e3:(⟨oL.toArray⟩:ByteArray).data.toList=oL:=rfl;rw[e2,e3,e];exact .str _ (I2 (Dh a) l1)
def Gw:Pat:=p2 .str .str fun a b=>⟨some (b=[45]/\a.length<4294967281),none,.tup [.str (aS a),.str (dY a),.bool (iA a)],[]⟩
theorem B7{f:Nat}{m:Int}(L:Lays.n145 P ρ)(hm:Tabs.tab (ρ.g 1) 0 (.int .i64 m))(hf:ρ.f 145=f)(he:az P f):ah P f Gw:=by
 subst hf;refine gu he fun a b _ _ ho=>?_;obtain⟨hb,hl⟩:=ho _ rfl;subst hb;refine fo fun w pub vs ht hv=>?_;obtain⟨rfl,l1,l2⟩:=VL.two_str hv;refine(Any.strings_Cut L ⟨a.toArray⟩ ⟨([45]:Str).toArray⟩ m w (by simpa[ByteArray.size]using hl) (ht _ _ _ hm).2).mono ?_;rintro en w' ⟨rfl,n,rfl⟩;refine⟨⟨_,rfl,fun Ω=>?_⟩,Below.drawn w n⟩;have e2:(⟨a.toArray⟩:ByteArray).data.toList=a:=rfl;have e3:(⟨([45]:Str).toArray⟩:ByteArray).data.toList=[45]:=rfl;rw[e2,e3,Dk];refine V.of_tup (VL.cons (.str _ ?_) (VL.cons (.str _ ?_) (VL.cons (.bool _) .nil)))
 ·exact I2 (su a) l1
 ·unfold dY;rw[Ih];exact I2 (Nat.sub_le _ _) l1
def vQ:Pat:=p2 .str .str fun a b=>⟨some (b.length=1),none,.bool (decide (b.getD 0 0∈a)),[]⟩
theorem qz{f:Nat}(L:Lays.n144 P ρ)(hf:ρ.f 144=f)(he:az P f):ah P f vQ:=by
 subst hf;refine gu he fun a b _ _ ho=>?_;have hb:b.length=1:=ho _ rfl
 obtain⟨c,rfl⟩:∃c,b=[c]:=by
  match b,hb with
  |[c],_=>exact⟨c,rfl⟩
 refine fo fun w pub vs ht hv=>?_;obtain⟨rfl,l1,l2⟩:=VL.two_str hv;refine(Any.strings_Contains_one L ⟨a.toArray⟩ c w).mono ?_;rintro en w' ⟨rfl,rfl⟩;refine⟨⟨_,rfl,fun Ω=>?_⟩,Below.refl _ _⟩;have e2:(⟨a.toArray⟩:ByteArray).data.toList=a:=rfl;rw[e2,vP];exact .bool _
def u5:Pat:=p2 .str (.int .u8) fun a c=>.ret (.int .i64 (nO a c))
theorem oN{f:Nat}(L:Lays.n137 P ρ)(hf:ρ.f 137=f)(he:az P f):ah P f u5:=by
 subst hf;refine gu he fun a c _ _ ho=>?_;refine fo fun w pub vs ht hv=>?_;obtain⟨v1,v2,rfl,h1,h2⟩:=VL.two_inv hv;obtain⟨rfl,l1⟩:=h1.str_inv;obtain⟨rfl,c1,c2⟩:=(show V _ (.int .u8 c) v2 from h2).int_inv;have c1:(0:Int)<=c:=c1;have c2:c<=(255:Int):=c2;refine(Any.strings_IndexByte L ⟨a.toArray⟩ c w).mono ?_;rintro en w' ⟨rfl,rfl⟩;refine⟨⟨_,rfl,fun Ω=>?_⟩,Below.refl _ _⟩;have e2:(⟨a.toArray⟩:ByteArray).data.toList=a:=rfl
 have e:nO a c=Lib.indexByte a c.toNat.toUInt8:=by
  unfold nO;rw[F8 a c c1 c2 0];split
  ·rename_i h;exact h.symm
  ·simp
 rw[e2,e];have hg:=Lib.indexByte_ge a c.toNat.toUInt8
 have hu:Lib.indexByte a c.toNat.toUInt8<=(a.length:Int):=by
  by_cases q:Lib.indexByte a c.toNat.toUInt8=-1
  ·omega
  ·obtain⟨k,k1,k2,_⟩:=fF q;omega
 have l1':a.length<=9223372036854775807:=l1;have b1:inR .i64 (Lib.indexByte a c.toNat.toUInt8):=aP (by omega) (by omega);exact .int _ _ b1.1 b1.2
def Dm:Pat:=p2 .str .str fun a b=>⟨some (b=[46]/\a.length<4294967281),none,.lst .str (splitB 46 a) none,[]⟩
theorem qA(c:UInt8):∀(s:Str),∀x∈splitB c s,x.length<=s.length
 |[],x,h=>by rw[HM.1 h];exact Hu _
 |b::r,x,h=>by
  have ih:=qA c r;unfold splitB at h;split at h
  ·rcases Hy.1 h with e|e
   ·rw[e];exact Hz _
   ·have:=ih x e;rw[HJ];omega
  ·split at h
   ·rw[HM.1 h,HJ];simp
   ·rename_i p ps e0;rcases Hy.1 h with e|e
    ·have:=ih p (by rw[e0];exact IA ..);rw[e,HJ,HJ];omega
    ·have:=ih x (by rw[e0];exact HH _ e);rw[HJ];omega
theorem vR{f:Nat}{m:Int}(L:Lays.n146 P ρ)(hi9:(P.info? (ρ.t 9)).map (fun i=>(i.zero,i.size,i.bytes))=some (some (.string ByteArray.empty),1,16))(hm:Tabs.tab (ρ.g 1) 0 (.int .i64 m))(hf:ρ.f 146=f)(he:az P f):ah P f Dm:=by
 subst hf;refine gu he fun a b _ _ ho=>?_;obtain⟨hb,hl⟩:=ho _ rfl;subst hb;intro w pub e vs hp ht hv hs hd hi;obtain⟨rfl,l1,l2⟩:=VL.two_str hv;have l1':a.length<=9223372036854775807:=l1;refine(Any.strings_Split L hi9 ⟨a.toArray⟩ ⟨([46]:Str).toArray⟩ m w (by simpa[ByteArray.size]using hl) (ht _ _ _ hm).2 (by decide)).mono ?_;rintro en w' ⟨rfl,rfl⟩;have e2:(⟨a.toArray⟩:ByteArray).data.toList=a:=rfl;have e3:(⟨([46]:Str).toArray⟩:ByteArray).data.toList=[46]:=rfl;have hcount:Lib.countB ⟨a.toArray⟩ ⟨([46]:Str).toArray⟩=a.count 46:=by show Lib.count a [46]=_;rw[Lib.count_one]
 have hsp:(Lib.splitB ⟨([46]:Str).toArray⟩ 0 (Lib.countB ⟨a.toArray⟩ ⟨([46]:Str).toArray⟩) ⟨a.toArray⟩).map (·.data.toList)=splitB 46 a:=by rw[Lib.splitB_data,hcount];exact qy 46 a.length a (Hu _)
 generalize Lib.splitB ⟨([46]:Str).toArray⟩ 0 (Lib.countB ⟨a.toArray⟩ ⟨([46]:Str).toArray⟩) ⟨a.toArray⟩=bs at hsp
 have hcl:(splitB 46 a).length=Lib.countB ⟨a.toArray⟩ ⟨([46]:Str).toArray⟩+1:=by
  rw[hcount]
  have:∀s:Str,(splitB 46 s).length=s.count 46+1:=by
   intro s
   induction s with
   |nil=>rfl
   |cons b r ih=>
    unfold splitB;split
    ·rename_i h;subst h;rw[HJ,ih,List.count_cons_self]
    ·rename_i h;rw[List.count_cons_of_ne h];split
     ·rename_i e0;rw[e0]at ih;simp at ih
     ·rename_i p ps e0;rw[e0]at ih;simpa using ih
  exact this a
 have hbl:bs.length=(splitB 46 a).length:=by rw[<-hsp,Is]
 have hsz:=j9 46 a;rw[<-hcl];have hnew:(w.alloc (.cells (bs.map Value.string).toArray (ρ.t 9))).heap[w.heap.size]?=some (.cells (bs.map Value.string).toArray (ρ.t 9) (0,0)):=df _ _;have hbw:Below w.heap.size w (w.alloc (.cells (bs.map Value.string).toArray (ρ.t 9))):=⟨rfl,rfl,rfl,by simp,fun b hb=>gn _ _ _ hb⟩;refine⟨fun b o=>pub b o∨(b=w.heap.size/\o<bs.length),e,And.intro (fun b pv u h=>by cases h) (And.intro ?_ (After.news hp (fun id=>hd id rfl) hbw (p:=fun o=>o<bs.length) (fun o ho=>?_)))⟩
 ·refine pM (Ω:=⟨e,w.alloc (.cells (bs.map Value.string).toArray (ρ.t 9)),fun b o=>pub b o∨(b=w.heap.size/\o<bs.length)⟩) (τ:=.str) (xs:=splitB 46 a) (vs:=bs.map Value.string) hnew ?_ ?_ (Hu _) (by unfold cn;omega) (fun i hi=>.inr ⟨rfl,by rw[hbl];simpa[ad]using hi⟩) (fun id hid=>by cases hid)
  ·have e1:(splitB 46 a).length *ad .str=bs.length:=by rw[hbl];exact JS _
   rw[e1];exact IF (by simp)
  ·have ef:bp .str (splitB 46 a)=(splitB 46 a).map AV.str:=by unfold bp;rw[JD];rfl
   rw[ef,<-hsp];refine⟨by simp,fun j c v hc hv=>?_⟩;rw[List.map_map,HU,HA]at hc;rw[HU,HA]at hv;obtain⟨x,hx,rfl⟩:=hc;obtain⟨y,hy,rfl⟩:=hv;rw[hx]at hy;cases hy;have hmem:x.data.toList∈splitB 46 a:=by rw[<-hsp];exact List.mem_map_of_mem (HO hx)
   have hle:=qA 46 a _ hmem;have:=V.str (Ω:=⟨e,w.alloc (.cells (bs.map Value.string).toArray (ρ.t 9)),fun b o=>pub b o∨(b=w.heap.size/\o<bs.length)⟩) x.data.toList (I2 hle l1);exact this
 ·rw[aN hnew];exact⟨_,IH (by simpa using ho)⟩
def ng[Tabs](g3 g4:Nat):Prop:=
 (∀c,c<256->Tabs.tab g3 c (.int .u8 (Lib.firstT c)))/\(∀i,i<16->Tabs.tab g4 (2 *i) (.int .u8 (Lib.accLo i))/\Tabs.tab g4 (2 *i+1) (.int .u8 (Lib.accHi i)))
theorem ng.tabs{g3 g4:Nat}(h:ng g3 g4){w:World}{pub:Nat->Nat->Prop}(ht:j6 w pub):Lib.Utf8Tabs g3 g4 w:=
 ⟨fun c hc=>(ht _ _ _ (h.1 c hc)).2,fun i hi=>⟨(ht _ _ _ (h.2 i hi).1).2,(ht _ _ _ (h.2 i hi).2).2⟩⟩
theorem Fa(s:Str)(k:Nat)(h:k<s.length):((⟨s.toArray⟩:ByteArray).get! k)=s.getD k 0:=by rw[Utf8W.get!_of_lt _ k (by simpa[ByteArray.size]using h)];have:(⟨s.toArray⟩:ByteArray)[k]'(by simpa[ByteArray.size]using h)=s[k]:=rfl;rw[this];simp[Hl,h]
theorem vS(n b0 b1 b2 b3 c1 c2 c3:Nat)(h1:1<n->b1=c1)(h2:2<n->b2=c2)(h3:3<n->b3=c3):Lib.decodeN n b0 b1 b2 b3=Lib.decodeN n b0 c1 c2 c3:=by
 rcases Hw 3 n with k|k
 ·rw[h1 (by omega),h2 (by omega),h3 k]
 rcases Hw 2 n with k2|k2
 ·rw[h1 (by omega),h2 k2];unfold Lib.decodeN;have e:¬3<n:=by omega
  simp only[e,false_and,and_false,HW]
 rcases Hw 1 n with k1|k1
 ·rw[h1 k1];unfold Lib.decodeN;have e:¬3<n:=by omega
  have e':¬2<n:=by omega
  simp only[e,e',false_and,and_false,HW]
 ·unfold Lib.decodeN;have e:¬3<n:=by omega
  have e':¬2<n:=by omega
  have e'':¬1<n:=by omega
  simp only[e,e',e'',false_and,and_false,HW]
theorem oz(s:Str):Lib.decodeGo ⟨s.toArray⟩=gM s:=by
 unfold Lib.decodeGo gM;have hs:(⟨s.toArray⟩:ByteArray).size=s.length:=by simp[ByteArray.size]
 rw[hs];by_cases h:s=[]
 ·subst h;rfl
 have hl:=Ip.2 h;rw[Hh (by omega),Hh h,Lib.decode_at,hs,Jr,Fa s 0 hl];exact vS _ _ _ _ _ _ _ _ (fun k=>by rw[Fa s 1 k]) (fun k=>by rw[Fa s 2 k]) (fun k=>by rw[Fa s 3 k])
def rN:Pat:=p1 .str fun s=>.ret (.tup [.int .i32 ((gM s).1:Int),.int .i64 ((gM s).2:Int)])
theorem yn(s:Str):(gM s).1<=1114111/\(gM s).2<=s.length:=by
 by_cases h:s=[]
 ·subst h;decide
 ·have:=ju h;exact⟨this.2.2.1,this.2.2.2.2⟩
theorem nP{f:Nat}(L:Lays.n197 P ρ)(hu:ng (ρ.g 3) (ρ.g 4))(hf:ρ.f 197=f)(he:az P f):ah P f rN:=by subst hf;refine cd he fun s _ ho=>?_;refine fo fun w pub vs ht hv=>?_;obtain⟨v,rfl,h1⟩:=VL.one_inv hv;obtain⟨rfl,hl⟩:=h1.str_inv;have hl':s.length<=9223372036854775807:=hl;refine(Any.utf8_DecodeRuneInString L ⟨s.toArray⟩ w (hu.tabs ht)).mono ?_;rintro en w' ⟨rfl,hb⟩;refine⟨⟨_,rfl,fun Ω=>?_⟩,hb⟩;rw[oz];obtain⟨d1,d2⟩:=yn s;exact V.of_tup (VL.cons (.int .i32 _ (by show(-2147483648:Int)<=_;omega) (by show _<=(2147483647:Int);omega)) (VL.cons (.int .i64 _ (by show(-9223372036854775808:Int)<=_;omega) (by show _<=(9223372036854775807:Int);omega)) .nil))
theorem qB:∀(n:Nat)(l:Str)(k:Nat),Lib.validGoD n l=(fD n l k).isNone
 |0,_,_=>rfl
 |n+1,l,k=>by
  unfold Lib.validGoD;rw[fD];by_cases h:l=[]
  ·rw[Hj h,Hj h];rfl
  rw[Hh h,Hh h]
  have hd:Lib.decodeL l=gM l:=by
   rw[<-oz];unfold Lib.decodeL Lib.decodeGo
   rw[Hh (by
    have:=Ip.2 h;simp[ByteArray.size];exact h)]
  obtain⟨b1,b2,_⟩:=ju h;rw[hd];by_cases u:dU l=0
  ·rw[Hj (b1.2 u),Hj u];rfl
  ·rw[Hh (fun e=>u (b1.1 e)),Hh u,b2 u];exact qB n _ _
def Dn:Pat:=p1 .str fun s=>.ret (.bool (bS s).isNone)
theorem vT{f:Nat}(L:Lays.n196 P ρ)(hu:ng (ρ.g 3) (ρ.g 4))(hf:ρ.f 196=f)(he:az P f):ah P f Dn:=by subst hf;refine cd he fun s _ ho=>?_;refine fo fun w pub vs ht hv=>?_;obtain⟨v,rfl,h1⟩:=VL.one_inv hv;obtain⟨rfl,hl⟩:=h1.str_inv;have hl':s.length<=9223372036854775807:=hl;refine(Any.utf8_ValidString L ⟨s.toArray⟩ w (by simpa[ByteArray.size]using hl') (hu.tabs ht)).mono ?_;rintro en w' ⟨rfl,hb⟩;refine⟨⟨_,rfl,fun Ω=>?_⟩,hb⟩;have e:Lib.validD s=(bS s).isNone:=qB s.length s 0;have e2:(⟨s.toArray⟩:ByteArray).data.toList=s:=rfl;rw[e2,e];exact .bool _
end Go.AL
end
section
namespace Go.Proofs
open Go.Proofs.Tryz
open Go.Shelf
def Tryz.lays160_ren:Go.Shelf.Ren:=⟨fun|160=>134|232=>183|231=>182|227=>184|234=>186|233=>185|236=>188|235=>187|228=>218|271=>220|151=>219|197=>180|120=>246|152=>245|260=>217|137=>193|119=>264|224=>265|225=>266|217=>224|266=>250|n=>n,fun|9=>9|4=>4|3=>3|5=>5|117=>179|116=>178|0=>0|124=>182|21=>21|105=>173|46=>228|119=>224|139=>227|138=>226|n=>n,fun|3=>0|4=>1|n=>n⟩
theorem Tryz.lays160:Go.Proofs.Lays.n160 prog Tryz.lays160_ren:={
 mixed:=by kernel_rfl
 f119:=Xt func264
 f120:=Xt func246
 f137:=Xt func193
 f151:=Xt func219
 f152:=Xt func245
 f160:=Xt func134
 f197:=Xt func180
 f217:=Xt func224
 f224:=Xt func265
 f225:=Xt func266
 f227:=Xt func184
 f228:=Xt func218
 f231:=Xt func182
 f232:=Xt func183
 f233:=Xt func185
 f234:=Xt func186
 f235:=Xt func187
 f236:=Xt func188
 f260:=Xt func217
 f266:=Xt func250
 f271:=Xt func220
 t0:=underlying0
 a0:=isAgg0
 z0:=sizeOf0
 v0:=zeroValue0
 t3:=underlying3
 a3:=isAgg3
 z3:=sizeOf3
 v3:=zeroValue3
 t4:=underlying4
 a4:=isAgg4
 z4:=sizeOf4
 v4:=zeroValue4
 t5:=underlying5
 a5:=isAgg5
 z5:=sizeOf5
 v5:=zeroValue5
 t9:=underlying9
 a9:=isAgg9
 z9:=sizeOf9
 v9:=zeroValue9
 t21:=underlying21
 a21:=isAgg21
 z21:=sizeOf21
 v21:=zeroValue21
 t46:=underlying228
 a46:=isAgg228
 z46:=sizeOf228
 v46:=zeroValue228
 t105:=underlying173
 a105:=isAgg173
 z105:=sizeOf173
 v105:=zeroValue173
 t116:=underlying178
 a116:=isAgg178
 z116:=sizeOf178
 t117:=underlying179
 a117:=isAgg179
 z117:=sizeOf179
 v117:=zeroValue179
 t119:=underlying224
 a119:=isAgg224
 z119:=sizeOf224
 t124:=underlying182
 a124:=isAgg182
 z124:=sizeOf182
 v124:=zeroValue182
 t138:=underlying226
 a138:=isAgg226
 z138:=sizeOf226
 v138:=zeroValue226
 t139:=underlying227
 a139:=isAgg227
 z139:=sizeOf227
 v139:=zeroValue227
 g3:=by kernel_rfl
 g4:=by kernel_rfl}
def Tryz.lays145_ren:Go.Shelf.Ren:=⟨fun|145=>189|220=>221|219=>247|217=>224|225=>266|224=>265|267=>267|266=>250|314=>285|n=>n,fun|9=>9|4=>4|59=>183|3=>3|5=>5|46=>228|146=>260|51=>239|n=>n,fun|1=>2|n=>n⟩
theorem Tryz.lays145:Go.Proofs.Lays.n145 prog Tryz.lays145_ren:={
 mixed:=by kernel_rfl
 f145:=Xt func189
 f217:=Xt func224
 f219:=Xt func247
 f220:=Xt func221
 f224:=Xt func265
 f225:=Xt func266
 f266:=Xt func250
 f267:=Xt func267
 f314:=Xt func285
 t3:=underlying3
 a3:=isAgg3
 z3:=sizeOf3
 v3:=zeroValue3
 t4:=underlying4
 a4:=isAgg4
 z4:=sizeOf4
 v4:=zeroValue4
 t5:=underlying5
 a5:=isAgg5
 z5:=sizeOf5
 v5:=zeroValue5
 t9:=underlying9
 a9:=isAgg9
 z9:=sizeOf9
 v9:=zeroValue9
 t46:=underlying228
 a46:=isAgg228
 z46:=sizeOf228
 v46:=zeroValue228
 t51:=underlying239
 a51:=isAgg239
 z51:=sizeOf239
 v51:=zeroValue239
 t59:=underlying183
 a59:=isAgg183
 z59:=sizeOf183
 v59:=zeroValue183
 t146:=underlying260
 a146:=isAgg260
 z146:=sizeOf260
 v146:=zeroValue260
 g1:=by kernel_rfl}
def Tryz.lays146_ren:Go.Shelf.Ren:=⟨fun|146=>190|221=>222|268=>248|138=>249|143=>225|195=>268|197=>180|218=>269|219=>247|260=>217|217=>224|225=>266|224=>265|267=>267|266=>250|314=>285|n=>n,fun|9=>9|31=>25|3=>3|4=>4|0=>0|105=>173|21=>21|5=>5|46=>228|119=>224|139=>227|138=>226|146=>260|51=>239|n=>n,fun|1=>2|3=>0|4=>1|n=>n⟩
theorem Tryz.lays146:Go.Proofs.Lays.n146 prog Tryz.lays146_ren:={
 mixed:=by kernel_rfl
 f138:=Xt func249
 f143:=Xt func225
 f146:=Xt func190
 f195:=Xt func268
 f197:=Xt func180
 f217:=Xt func224
 f218:=Xt func269
 f219:=Xt func247
 f221:=Xt func222
 f224:=Xt func265
 f225:=Xt func266
 f260:=Xt func217
 f266:=Xt func250
 f267:=Xt func267
 f268:=Xt func248
 f314:=Xt func285
 t0:=underlying0
 a0:=isAgg0
 z0:=sizeOf0
 v0:=zeroValue0
 t3:=underlying3
 a3:=isAgg3
 z3:=sizeOf3
 v3:=zeroValue3
 t4:=underlying4
 a4:=isAgg4
 z4:=sizeOf4
 v4:=zeroValue4
 t5:=underlying5
 a5:=isAgg5
 z5:=sizeOf5
 v5:=zeroValue5
 t9:=underlying9
 a9:=isAgg9
 z9:=sizeOf9
 v9:=zeroValue9
 t21:=underlying21
 a21:=isAgg21
 z21:=sizeOf21
 v21:=zeroValue21
 t31:=underlying25
 a31:=isAgg25
 z31:=sizeOf25
 v31:=zeroValue25
 t46:=underlying228
 a46:=isAgg228
 z46:=sizeOf228
 v46:=zeroValue228
 t51:=underlying239
 a51:=isAgg239
 z51:=sizeOf239
 v51:=zeroValue239
 t105:=underlying173
 a105:=isAgg173
 z105:=sizeOf173
 v105:=zeroValue173
 t119:=underlying224
 a119:=isAgg224
 z119:=sizeOf224
 t138:=underlying226
 a138:=isAgg226
 z138:=sizeOf226
 v138:=zeroValue226
 t139:=underlying227
 a139:=isAgg227
 z139:=sizeOf227
 v139:=zeroValue227
 t146:=underlying260
 a146:=isAgg260
 z146:=sizeOf260
 v146:=zeroValue260
 g1:=by kernel_rfl
 g3:=by kernel_rfl
 g4:=by kernel_rfl}
def Tryz.lays144_ren:Go.Shelf.Ren:=⟨fun|144=>195|143=>225|219=>247|217=>224|225=>266|224=>265|267=>267|266=>250|314=>285|n=>n,fun|9=>9|4=>4|3=>3|5=>5|46=>228|146=>260|51=>239|n=>n,fun|1=>2|n=>n⟩
theorem Tryz.lays144:Go.Proofs.Lays.n144 prog Tryz.lays144_ren:={
 mixed:=by kernel_rfl
 f143:=Xt func225
 f144:=Xt func195
 f217:=Xt func224
 f219:=Xt func247
 f224:=Xt func265
 f225:=Xt func266
 f266:=Xt func250
 f267:=Xt func267
 f314:=Xt func285
 t3:=underlying3
 a3:=isAgg3
 z3:=sizeOf3
 v3:=zeroValue3
 t4:=underlying4
 a4:=isAgg4
 z4:=sizeOf4
 v4:=zeroValue4
 t5:=underlying5
 a5:=isAgg5
 z5:=sizeOf5
 v5:=zeroValue5
 t9:=underlying9
 a9:=isAgg9
 z9:=sizeOf9
 v9:=zeroValue9
 t46:=underlying228
 a46:=isAgg228
 z46:=sizeOf228
 v46:=zeroValue228
 t51:=underlying239
 a51:=isAgg239
 z51:=sizeOf239
 v51:=zeroValue239
 t146:=underlying260
 a146:=isAgg260
 z146:=sizeOf260
 v146:=zeroValue260
 g1:=by kernel_rfl}
def Tryz.lays137_ren:Go.Shelf.Ren:=⟨fun|137=>193|217=>224|266=>250|n=>n,fun|9=>9|5=>5|3=>3|n=>n,fun|n=>n⟩
theorem Tryz.lays137:Go.Proofs.Lays.n137 prog Tryz.lays137_ren:={
 mixed:=by kernel_rfl
 f137:=Xt func193
 f217:=Xt func224
 f266:=Xt func250
 t3:=underlying3
 a3:=isAgg3
 z3:=sizeOf3
 v3:=zeroValue3
 t5:=underlying5
 a5:=isAgg5
 z5:=sizeOf5
 v5:=zeroValue5
 t9:=underlying9
 a9:=isAgg9
 z9:=sizeOf9
 v9:=zeroValue9}
def Tryz.lays197_ren:Go.Shelf.Ren:=⟨fun|197=>180|260=>217|n=>n,fun|9=>9|21=>21|3=>3|4=>4|5=>5|105=>173|119=>224|0=>0|46=>228|139=>227|138=>226|n=>n,fun|3=>0|4=>1|n=>n⟩
theorem Tryz.lays197:Go.Proofs.Lays.n197 prog Tryz.lays197_ren:={
 mixed:=by kernel_rfl
 f197:=Xt func180
 f260:=Xt func217
 t0:=underlying0
 a0:=isAgg0
 z0:=sizeOf0
 v0:=zeroValue0
 t3:=underlying3
 a3:=isAgg3
 z3:=sizeOf3
 v3:=zeroValue3
 t4:=underlying4
 a4:=isAgg4
 z4:=sizeOf4
 v4:=zeroValue4
 t5:=underlying5
 a5:=isAgg5
 z5:=sizeOf5
 v5:=zeroValue5
 t9:=underlying9
 a9:=isAgg9
 z9:=sizeOf9
 v9:=zeroValue9
 t21:=underlying21
 a21:=isAgg21
 z21:=sizeOf21
 v21:=zeroValue21
 t46:=underlying228
 a46:=isAgg228
 z46:=sizeOf228
 v46:=zeroValue228
 t105:=underlying173
 a105:=isAgg173
 z105:=sizeOf173
 v105:=zeroValue173
 t119:=underlying224
 a119:=isAgg224
 z119:=sizeOf224
 t138:=underlying226
 a138:=isAgg226
 z138:=sizeOf226
 v138:=zeroValue226
 t139:=underlying227
 a139:=isAgg227
 z139:=sizeOf227
 v139:=zeroValue227
 g3:=by kernel_rfl
 g4:=by kernel_rfl}
def Tryz.lays196_ren:Go.Shelf.Ren:=⟨fun|196=>212|259=>243|n=>n,fun|9=>9|4=>4|3=>3|5=>5|12=>12|119=>224|0=>0|46=>228|139=>227|138=>226|53=>211|n=>n,fun|3=>0|4=>1|n=>n⟩
theorem Tryz.lays196:Go.Proofs.Lays.n196 prog Tryz.lays196_ren:={
 mixed:=by kernel_rfl
 f196:=Xt func212
 f259:=Xt func243
 t0:=underlying0
 a0:=isAgg0
 z0:=sizeOf0
 v0:=zeroValue0
 t3:=underlying3
 a3:=isAgg3
 z3:=sizeOf3
 v3:=zeroValue3
 t4:=underlying4
 a4:=isAgg4
 z4:=sizeOf4
 v4:=zeroValue4
 t5:=underlying5
 a5:=isAgg5
 z5:=sizeOf5
 v5:=zeroValue5
 t9:=underlying9
 a9:=isAgg9
 z9:=sizeOf9
 v9:=zeroValue9
 t12:=underlying12
 a12:=isAgg12
 z12:=sizeOf12
 v12:=zeroValue12
 t46:=underlying228
 a46:=isAgg228
 z46:=sizeOf228
 v46:=zeroValue228
 t53:=underlying211
 a53:=isAgg211
 z53:=sizeOf211
 v53:=zeroValue211
 t119:=underlying224
 a119:=isAgg224
 z119:=sizeOf224
 t138:=underlying226
 a138:=isAgg226
 z138:=sizeOf226
 v138:=zeroValue226
 t139:=underlying227
 a139:=isAgg227
 z139:=sizeOf227
 v139:=zeroValue227
 g3:=by kernel_rfl
 g4:=by kernel_rfl}
end Go.Proofs
end
section
namespace Go.Proofs
open Go.Proofs.Tryz
open Go.Shelf
def Tryz.lays190_ren:Go.Shelf.Ren:=⟨fun|190=>229|125=>255|258=>254|128=>280|129=>257|302=>271|303=>272|304=>273|305=>274|306=>275|307=>276|308=>277|309=>278|310=>279|333=>286|329=>287|330=>288|334=>289|335=>290|336=>291|344=>292|n=>n,fun|31=>25|9=>9|3=>3|46=>228|0=>0|51=>239|53=>211|4=>4|183=>249|182=>248|131=>253|5=>5|218=>262|222=>266|228=>270|229=>88|n=>n,fun|n=>n⟩
theorem Tryz.lays190:Go.Proofs.Lays.n190 prog Tryz.lays190_ren:={
 mixed:=by kernel_rfl
 f125:=Xt func255
 f128:=Xt func280
 f129:=Xt func257
 f190:=Xt func229
 f258:=Xt func254
 f302:=Xt func271
 f303:=Xt func272
 f304:=Xt func273
 f305:=Xt func274
 f306:=Xt func275
 f307:=Xt func276
 f308:=Xt func277
 f309:=Xt func278
 f310:=Xt func279
 f329:=Xt func287
 f330:=Xt func288
 f333:=Xt func286
 f334:=Xt func289
 f335:=Xt func290
 f336:=Xt func291
 f344:=Xt func292
 t0:=underlying0
 a0:=isAgg0
 z0:=sizeOf0
 v0:=zeroValue0
 t3:=underlying3
 a3:=isAgg3
 z3:=sizeOf3
 v3:=zeroValue3
 t4:=underlying4
 a4:=isAgg4
 z4:=sizeOf4
 v4:=zeroValue4
 t5:=underlying5
 a5:=isAgg5
 z5:=sizeOf5
 v5:=zeroValue5
 t9:=underlying9
 a9:=isAgg9
 z9:=sizeOf9
 v9:=zeroValue9
 t31:=underlying25
 a31:=isAgg25
 z31:=sizeOf25
 v31:=zeroValue25
 t46:=underlying228
 a46:=isAgg228
 z46:=sizeOf228
 v46:=zeroValue228
 t51:=underlying239
 a51:=isAgg239
 z51:=sizeOf239
 v51:=zeroValue239
 t53:=underlying211
 a53:=isAgg211
 z53:=sizeOf211
 v53:=zeroValue211
 t131:=underlying253
 a131:=isAgg253
 z131:=sizeOf253
 v131:=zeroValue253
 t182:=underlying248
 a182:=isAgg248
 z182:=sizeOf248
 v182:=zeroValue248
 t183:=underlying249
 a183:=isAgg249
 z183:=sizeOf249
 v183:=zeroValue249
 t218:=underlying262
 a218:=isAgg262
 z218:=sizeOf262
 v218:=zeroValue262
 t222:=underlying266
 a222:=isAgg266
 z222:=sizeOf266
 v222:=zeroValue266
 t228:=underlying270
 a228:=isAgg270
 z228:=sizeOf270
 v228:=zeroValue270
 t229:=underlying88
 a229:=isAgg88
 z229:=sizeOf88
 v229:=zeroValue88}
def Tryz.lays194_ren:Go.Shelf.Ren:=⟨fun|194=>202|n=>n,fun|31=>25|9=>9|3=>3|4=>4|0=>0|n=>n,fun|n=>n⟩
theorem Tryz.lays194:Go.Proofs.Lays.n194 prog Tryz.lays194_ren:={
 mixed:=by kernel_rfl
 f194:=Xt func202
 t0:=underlying0
 a0:=isAgg0
 z0:=sizeOf0
 v0:=zeroValue0
 t3:=underlying3
 a3:=isAgg3
 z3:=sizeOf3
 v3:=zeroValue3
 t4:=underlying4
 a4:=isAgg4
 z4:=sizeOf4
 v4:=zeroValue4
 t9:=underlying9
 a9:=isAgg9
 z9:=sizeOf9
 v9:=zeroValue9
 t31:=underlying25
 a31:=isAgg25
 z31:=sizeOf25
 v31:=zeroValue25}
def Tryz.lays172_ren:Go.Shelf.Ren:=⟨fun|172=>164|244=>207|245=>208|247=>237|279=>238|280=>239|281=>240|282=>241|287=>261|316=>262|171=>94|205=>263|321=>283|322=>284|243=>158|246=>205|283=>233|284=>234|285=>235|286=>236|129=>257|317=>256|318=>258|319=>259|320=>260|337=>281|338=>282|n=>n,fun|9=>9|3=>3|75=>155|76=>156|4=>4|5=>5|167=>216|37=>150|0=>0|85=>217|2=>2|168=>219|53=>211|175=>241|46=>228|210=>244|127=>198|145=>259|143=>257|21=>21|171=>210|173=>214|212=>238|51=>239|20=>20|213=>240|232=>268|233=>269|80=>158|n=>n,fun|15=>4|16=>5|17=>3|18=>6|19=>7|n=>n⟩
theorem Tryz.lays172:Go.Proofs.Lays.n172 prog Tryz.lays172_ren:={
 mixed:=by kernel_rfl
 f129:=Xt func257
 f171:=Xt func94
 f172:=Xt func164
 f205:=Xt func263
 f243:=Xt func158
 f244:=Xt func207
 f245:=Xt func208
 f246:=Xt func205
 f247:=Xt func237
 f279:=Xt func238
 f280:=Xt func239
 f281:=Xt func240
 f282:=Xt func241
 f283:=Xt func233
 f284:=Xt func234
 f285:=Xt func235
 f286:=Xt func236
 f287:=Xt func261
 f316:=Xt func262
 f317:=Xt func256
 f318:=Xt func258
 f319:=Xt func259
 f320:=Xt func260
 f321:=Xt func283
 f322:=Xt func284
 f337:=Xt func281
 f338:=Xt func282
 t0:=underlying0
 a0:=isAgg0
 z0:=sizeOf0
 v0:=zeroValue0
 t2:=underlying2
 a2:=isAgg2
 z2:=sizeOf2
 v2:=zeroValue2
 t3:=underlying3
 a3:=isAgg3
 z3:=sizeOf3
 v3:=zeroValue3
 t4:=underlying4
 a4:=isAgg4
 z4:=sizeOf4
 v4:=zeroValue4
 t5:=underlying5
 a5:=isAgg5
 z5:=sizeOf5
 v5:=zeroValue5
 t9:=underlying9
 a9:=isAgg9
 z9:=sizeOf9
 v9:=zeroValue9
 t20:=underlying20
 a20:=isAgg20
 z20:=sizeOf20
 v20:=zeroValue20
 t21:=underlying21
 a21:=isAgg21
 z21:=sizeOf21
 v21:=zeroValue21
 t37:=underlying150
 a37:=isAgg150
 z37:=sizeOf150
 v37:=zeroValue150
 t46:=underlying228
 a46:=isAgg228
 z46:=sizeOf228
 v46:=zeroValue228
 t51:=underlying239
 a51:=isAgg239
 z51:=sizeOf239
 v51:=zeroValue239
 t53:=underlying211
 a53:=isAgg211
 z53:=sizeOf211
 v53:=zeroValue211
 t75:=underlying155
 a75:=isAgg155
 z75:=sizeOf155
 v75:=zeroValue155
 t76:=underlying156
 a76:=isAgg156
 z76:=sizeOf156
 v76:=zeroValue156
 t85:=underlying217
 a85:=isAgg217
 z85:=sizeOf217
 v85:=zeroValue217
 t127:=underlying198
 a127:=isAgg198
 z127:=sizeOf198
 v127:=zeroValue198
 t143:=underlying257
 a143:=isAgg257
 z143:=sizeOf257
 v143:=zeroValue257
 t145:=underlying259
 a145:=isAgg259
 z145:=sizeOf259
 v145:=zeroValue259
 t167:=underlying216
 a167:=isAgg216
 z167:=sizeOf216
 v167:=zeroValue216
 t168:=underlying219
 a168:=isAgg219
 z168:=sizeOf219
 v168:=zeroValue219
 t171:=underlying210
 a171:=isAgg210
 z171:=sizeOf210
 v171:=zeroValue210
 t173:=underlying214
 a173:=isAgg214
 z173:=sizeOf214
 v173:=zeroValue214
 t175:=underlying241
 a175:=isAgg241
 z175:=sizeOf241
 v175:=zeroValue241
 t210:=underlying244
 a210:=isAgg244
 z210:=sizeOf244
 v210:=zeroValue244
 t212:=underlying238
 a212:=isAgg238
 z212:=sizeOf238
 v212:=zeroValue238
 t213:=underlying240
 a213:=isAgg240
 z213:=sizeOf240
 t232:=underlying268
 a232:=isAgg268
 z232:=sizeOf268
 v232:=zeroValue268
 t233:=underlying269
 a233:=isAgg269
 z233:=sizeOf269
 v233:=zeroValue269
 g15:=by kernel_rfl
 g16:=by kernel_rfl
 g17:=by kernel_rfl
 g18:=by kernel_rfl
 g19:=by kernel_rfl}
def Tryz.sorted200_ren:Go.Shelf.Ren:=⟨fun|6=>200|8=>228|9=>229|11=>253|13=>255|12=>254|23=>280|24=>257|14=>271|15=>272|16=>273|17=>274|18=>275|19=>276|20=>277|21=>278|22=>279|25=>286|26=>287|27=>288|28=>289|29=>290|30=>291|31=>292|n=>n,fun|26=>9|28=>196|24=>25|0=>0|3=>3|37=>228|48=>239|50=>211|4=>4|40=>249|39=>248|45=>253|5=>5|9=>9|51=>262|55=>266|57=>270|58=>88|33=>46|n=>n,fun|n=>n⟩
theorem Tryz.sorted200:Go.Proofs.SlLaysZ.n6 prog Tryz.sorted200_ren:={
 mixed:=by kernel_rfl
 f6:=⟨Tryz.f200.name,by decide,Xt func200⟩
 f8:=⟨Tryz.f228.name,by decide,Xt func228⟩
 f11:=⟨Tryz.f253.name,by decide,Xt func253⟩
 t0:=underlying0
 a0:=isAgg0
 z0:=sizeOf0
 v0:=zeroValue0
 t24:=underlying25
 a24:=isAgg25
 z24:=sizeOf25
 v24:=zeroValue25
 t26:=underlying9
 a26:=isAgg9
 z26:=sizeOf9
 v26:=zeroValue9
 t28:=underlying196
 a28:=isAgg196
 z28:=sizeOf196
 v28:=zeroValue196
 i26:=by kernel_rfl}
end Go.Proofs
end
section
namespace Go.Proofs
open Go.RowKit Go.Shelf Go.AL
variable [Tabs]
attribute [local go_sem] Oper.semAt_some
set_option maxRecDepth 100000 in
set_option maxHeartbeats 2000000 in
theorem Tryz.values1(F:Fence)(n:Nat)(h7:F.fn 230)(hro:F.round=none)(hn:1<=n)(l Bs Bo b off len cap:Nat)(zs:List Str)(hreach:len<=maxLen)(J:List Str->World->Prop)(hBl:∀pre W,J pre W->W.cell? ⟨Bs,Bo,none⟩=some (.slice (some ⟨b,off,none⟩) len cap)/\∀j,j<len->W.cell? ⟨b,off+j,none⟩=some (encStr (zs[j]?.getD [])))
 (hY:∀pre x W,J pre W->pre.length<len->YieldAt F (n-1) Tryz.prog l #[encStr x] W fun e W'=>e=.returned (.bool true)/\J (pre++[x]) W')
 (W:World)(h0:J [] W) :
  CallsIn F n Tryz.prog 230 #[.func (.yield l) #[] #[],.pointer (some ⟨Bs,Bo,none⟩)] W fun e W'=>(∃v,e=.returned v)/\∃ys,ys=rH (fun j=>zs[j]?.getD []) len/\J ys W':=by
 obtain⟨hBs,hc⟩:=hBl _ _ h0;refine callsIn_of_wp Tryz.func230 rfl h7 ?_ hro;simp only[Tryz.ntmps230,IJ,HJ,I5,Nat.reduceAdd,Nat.reduceSub,IL,IM,J6,IS,Hs,Iu]
 gi_wp2
 gi_loopw [7] (fun i wr=>∃k:Nat,k<=len/\i=.int .i64 k/\J (rH (fun j=>zs[j]?.getD []) k) wr)
  (fun i _=>len-(intOf i).toNat)
 case atStart=>exact⟨0,Hz _,rfl,h0⟩
 case round=>
  obtain⟨k,hk,rfl,hJs⟩:=hrel;have hcx:k<len->wr.cell? ⟨b,off+k,none⟩=some (encStr (zs[k]?.getD [])):=fun h=>(hBl _ _ hJs).2 k h;by_cases hlt:k<len
  ·obtain⟨fn,tmps,assign,body,hy,hR⟩:=hY _ (zs[k]?.getD []) wr hJs (by rw[vq];exact hlt);have hcx':=hcx hlt;have hsmall:(k:Int)+1<=9223372036854775807:=by unfold maxLen at hreach;omega
   gi_wp2
   refine hR.mono ?_;rintro e W3 ⟨rfl,hJ3⟩
   gi_wp2
   go_roundw
   case rel=>exact⟨k+1,by omega,by simp,by rw[AR];exact hJ3⟩
   case measure=>simp[intOf];omega
  ·obtain rfl:k=len:=by omega
   gi_wp2
   go_end0
   exact⟨⟨_,rfl⟩,_,rfl,hJs⟩
set_option maxRecDepth 100000 in
set_option maxHeartbeats 1000000 in
theorem Tryz.values1_nil(F:Fence)(n:Nat)(h7:F.fn 230)(hro:F.round=none)(l Bs Bo cap:Nat)(a:Option Addr)(J:List Str->World->Prop)(W:World)(hBs:W.cell? ⟨Bs,Bo,none⟩=some (.slice a 0 cap))(h0:J [] W) :
  CallsIn F n Tryz.prog 230 #[.func (.yield l) #[] #[],.pointer (some ⟨Bs,Bo,none⟩)] W fun e W'=>(∃v,e=.returned v)/\J [] W':=by
 refine callsIn_of_wp Tryz.func230 rfl h7 ?_ hro;simp only[Tryz.ntmps230,IJ,HJ,I5,Nat.reduceAdd,Nat.reduceSub,IL,IM,J6,IS,Hs,Iu]
 gi_wp2
 gi_loopw [7] (fun i wr=>i=.int .i64 0/\J [] wr) (fun _ _=>0)
 case atStart=>exact⟨rfl,h0⟩
 case round=>
  obtain⟨rfl,hJs⟩:=hrel
  gi_wp2
  go_end0
  exact⟨⟨_,rfl⟩,hJs⟩
theorem Tryz.valuesL:tO Tryz.prog 230:=by
 intro w b o sv zs hz hc hs l J W a1 a2 a3 a4 a5;have hb:=bD hc;rcases hs with⟨⟨a,cap,rfl⟩,rfl⟩|⟨g,off,cap,rfl,hg,hcs⟩
 ·refine(Tryz.values1_nil Fence.wide 2 trivial rfl l b o cap a J W ((a1.cell (p:=⟨b,o,none⟩) hb).trans hc) a5).mono ?_;rintro e W' ⟨h1,h2⟩;exact⟨h1,[],rfl,h2⟩
 ·refine(Tryz.values1 Fence.wide 2 trivial rfl (by omega) l b o g off zs.length cap zs hz J (fun pre W1 hJ=>⟨((a3 _ _ hJ).cell (p:=⟨b,o,none⟩) hb).trans hc,fun j hj=>((a3 _ _ hJ).cell (p:=⟨g,off+j,none⟩) hg).trans (hcs j hj)⟩)
   (fun pre x W1 h1 h2=>(a4 pre x W1 h1 h2).mono fun e W' h=>⟨h.1,h.2.1⟩) W a5).mono ?_
  rintro e W' ⟨h1,ys,h2,h3⟩;exact⟨h1,ys,by rw[h2,CX],h3⟩
end Go.Proofs
end
section
namespace Go.AL.Seat
open Go Go.AL Go.Proofs Go.Shelf Go.Pd
variable [Tabs]
theorem GQ:SortL Tryz.prog Tryz.sorted200_ren:=
 ⟨Tryz.sorted200,⟨fun blk off cap ss W hH hblk hsz=>callsIn_wide.2 (Any.slices_Sort_string Tryz.lays190 blk off cap ss W hH hblk hsz),fun p cap W=>callsIn_wide.2 (Any.slices_Sort_string_none Tryz.lays190 p cap W)⟩,enters_of Tryz.func229 (by kernel_rfl) rfl⟩
theorem qC:ah Tryz.prog 200 (mg 230):=
 rJ GQ rfl (enters_of Tryz.func230 (by kernel_rfl) rfl) Tryz.valuesL (az.mk' Tryz.func200 (by kernel_rfl))
theorem oA:ah Tryz.prog 202 mh:=rK Tryz.lays194 rfl (az.mk' Tryz.func202 (by kernel_rfl))
theorem vU:ah Tryz.prog 164 (p1 .str fun t=>⟨some (js t),none,.tup [.int .i64 (iR t),.nilif],[]⟩):=yh Tryz.lays172 rfl (az.mk' Tryz.func164 (by kernel_rfl))
end Go.AL.Seat
end
section
namespace Go.AL.Seat
open Go Go.AL Go.Proofs Go.Shelf Go.Pd
class SeatLaid[Tabs]:Prop where
 max:∃m:Int,Tabs.tab 2 0 (.int .i64 m)
 utf:ng 0 1
variable [Tabs] [SeatLaid]
theorem vV:ah Tryz.prog 134 (p2 .str .str fun a b=>⟨some (b=oL),none,.str (lS a),[]⟩):=ym Tryz.lays160 (by kernel_rfl) rfl (az.mk' Tryz.func134 (by kernel_rfl))
theorem Fb:ah Tryz.prog 189 (p2 .str .str fun a b=>⟨some (b=[45]/\a.length<4294967281),none,.tup [.str (aS a),.str (dY a),.bool (iA a)],[]⟩):=
 let ⟨_,hm⟩:=SeatLaid.max;B7 Tryz.lays145 hm rfl (az.mk' Tryz.func189 (by kernel_rfl))
theorem sx:ah Tryz.prog 190 (p2 .str .str fun a b=>⟨some (b=[46]/\a.length<4294967281),none,.lst .str (splitB 46 a) none,[]⟩):=
 let ⟨_,hm⟩:=SeatLaid.max;vR Tryz.lays146 (by kernel_rfl) hm rfl (az.mk' Tryz.func190 (by kernel_rfl))
theorem u6:ah Tryz.prog 195 (p2 .str .str fun a b=>⟨some (b.length=1),none,.bool (decide (b.getD 0 0∈a)),[]⟩):=qz Tryz.lays144 rfl (az.mk' Tryz.func195 (by kernel_rfl))
theorem rO:ah Tryz.prog 193 (p2 .str (.int .u8) fun a c=>.ret (.int .i64 (nO a c))):=oN Tryz.lays137 rfl (az.mk' Tryz.func193 (by kernel_rfl))
theorem qD:ah Tryz.prog 180 (p1 .str fun s=>.ret (.tup [.int .i32 ((gM s).1:Int),.int .i64 ((gM s).2:Int)])):=nP Tryz.lays197 SeatLaid.utf rfl (az.mk' Tryz.func180 (by kernel_rfl))
theorem B8:ah Tryz.prog 212 (p1 .str fun s=>.ret (.bool (bS s).isNone)):=vT Tryz.lays196 SeatLaid.utf rfl (az.mk' Tryz.func212 (by kernel_rfl))
end Go.AL.Seat
end
section
namespace Go.Proofs.YtdmbjejhifjhbaaGreatDoor.Join
open Go.AL Go.AL.Seat Go.ChangeShapes Go.WideShapes Go.RowKit Go.Lib Go.Shelf
set_option maxRecDepth 1000000
theorem own:ownKnob Tryz.prog.godebug=none:=by kernel_rfl
theorem Fc:laidOutB Tryz.prog=true:=by kernel_rfl
theorem undB:Tryz.prog.underlying 4=some .bool:=by kernel_rfl
theorem undI:Tryz.prog.underlying 3=some (.int .i64):=by kernel_rfl
theorem undS:Tryz.prog.underlying 9=some .string:=by kernel_rfl
theorem GR:Tryz.prog.readableRec 9=true:=by kernel_rfl
theorem sy:22<Tryz.prog.types.size:=Xo (by kernel_rfl)
def laid:List (String×DataW Unit):=Rows.parseTypesRow.laid
theorem GS:(Rows.laid_unicode_utf8_acceptRanges:DataW Unit)=acceptData:=by kernel_rfl
theorem GU{W:World}(h:W.ShapedOpen Tryz.prog):∃m,W.cell? ⟨2,0,none⟩=some (.int .i64 m):=
 cell_of_shapedOpen_int (t:=3) (zero:=#[.int .i64 0]) h (Xo (by kernel_rfl)) (by kernel_rfl) rfl (by kernel_rfl) (by kernel_rfl) undI
theorem iC{W:World}(h:laidMet Tryz.prog laid W):Utf8Tabs 0 1 W:=
 utf8Tabs_of_readsT (ρ:=Tryz.lays196_ren) (U8Types.of196 Tryz.lays196) ⟨by kernel_rfl,by kernel_rfl,by kernel_rfl,by kernel_rfl,by kernel_rfl,by kernel_rfl,by kernel_rfl⟩
  (Pinned.utf8First_eq ▸ laidMet.reads h (by simp[laid,Rows.parseTypesRow,Rows.laid_unicode_utf8_first])) (GS ▸ laidMet.reads h (by simp[laid,Rows.parseTypesRow]))
theorem Dp{W:World}(h:laidMet Tryz.prog laid W)(hs:W.ShapedOpen Tryz.prog):@SeatLaid (qf W):=by
 letI:Tabs:=qf W
 obtain⟨m,hm⟩:=GU hs;obtain⟨u1,u2⟩:=iC h;exact⟨⟨m,by decide,hm⟩,fun c hc=>⟨by decide,u1 c hc⟩,fun i hi=>⟨⟨by decide,(u2 i hi).1⟩,by decide,(u2 i hi).2⟩⟩
def z32:List Int:=[0,1,28,2,29,14,24,3,30,22,20,15,25,17,4,8,31,27,13,23,21,19,16,7,26,12,18,6,11,5,10,9]
def z64:List Int:=[0,1,56,2,57,49,28,3,61,58,42,50,38,29,17,4,62,47,59,36,45,43,51,22,53,39,33,30,24,18,12,5,63,55,48,27,60,41,37,16,46,35,44,21,52,32,23,11,54,26,40,15,34,20,31,10,25,14,19,9,13,8,7,6]
def zPow:List Int:=[1,10,100,1000,10000,100000,1000000,10000000,100000000,1000000000,10000000000,100000000000,1000000000000,10000000000000,100000000000000,1000000000000000,10000000000000000,100000000000000000,1000000000000000000,10000000000000000000]
def zAcc:List Int:=[128,191,160,191,128,159,144,191,128,143,0,0,0,0,0,0,0,0,0,0,0,0,0,0,0,0,0,0,0,0,0,0]
def Gx:List Int:=List.map Int.ofNat Pinned.utf8FirstZ
noncomputable def lA(os:Os):World:=
 let N:=(World.settled Tryz.prog os).heap.size
 let w0:=World.holding Tryz.prog os ⟨#[.cells #[.string ⟨#[118,97,108,117,101,32,111,117,116,32,111,102,32,114,97,110,103,101]⟩] 259,.cells #[.string ⟨#[105,110,118,97,108,105,100,32,115,121,110,116,97,120]⟩] 259],#[],[]⟩
 let put (h:Array Obj) (g:Nat) (cs:Array Value):Array Obj:=h.modify g fun
  |.cells _ t frozen=>.cells cs t frozen
  |o=>o
 let h0:=put (put w0.heap 4 #[.iface 257 (.pointer (some ⟨N+1,0,none⟩))]) 5 #[.iface 257 (.pointer (some ⟨N,0,none⟩))]
 let h1:=put (put (put h0 3 (zPow.map (Value.int .u64)).toArray) 6 (z32.map (Value.int .u8)).toArray) 7 (z64.map (Value.int .u8)).toArray
 let h2:=put (put h1 0 (Gx.map (Value.int .u8)).toArray) 1 (zAcc.map (Value.int .u8)).toArray
 {w0 with heap:=h2}
noncomputable abbrev N0:Nat:=(World.settled Tryz.prog default).heap.size
theorem Gy(os:Os)(args:Array Value):LaidIn Tryz.prog ((lA os).forCall (fun _ _=>0) ⟨#[],args,[]⟩).memory laid [6,7,3,1,5,N0,4,N0+1,0]:=
 LaidIn.of_run [6,7,3,1,5,N0,4,N0+1,0] 10 (by kernel_rfl) (by kernel_rfl) (by kernel_rfl) (by kernel_rfl)
theorem Dq(os:Os)(args:Array Value):laidMet Tryz.prog laid ((lA os).forCall (fun _ _=>0) ⟨#[],args,[]⟩).memory:=(Gy os args).met
end Go.Proofs.YtdmbjejhifjhbaaGreatDoor.Join
end
section
open Go Go.AL Go.Proofs
namespace Go.AL.Seat
variable [Tabs]
def r1:TR:=⟨.other,1,8,[.undef],none⟩
def r2:TR:=⟨.int .i64,1,8,[.int .i64 0],some (.int .i64)⟩
def r5:TR:=⟨.int .u8,1,1,[.int .u8 0],some (.int .u8)⟩
def r7:TR:=⟨.strct true [(0,2),(1,3),(2,4),(3,6)],4,24,[.int .i64 0,.int .i64 0,.bool false,.int .u8 0],none⟩
def r9:TR:=⟨.str,1,16,[.str []],some .str⟩
def r12:TR:=⟨.int .u64,1,8,[.int .u64 0],some (.int .u64)⟩
def r13:TR:=⟨.strct false [(0,9),(1,12)],2,24,[.str [],.int .u64 0],none⟩
def r18:TR:=⟨.strct false [(0,17)],1,8,[.nilp],none⟩
def r20:TR:=⟨.iface,1,16,[.nilif],none⟩
def r21:TR:=⟨.int .i32,1,4,[.int .i32 0],some (.int .i32)⟩
def r100:TR:=⟨.strct true [(0,9),(1,3)],2,24,[.str [],.int .i64 0],none⟩
def r102:TR:=⟨.strct false [(0,101),(2,22),(3,31)],5,64,[.str [],.int .i64 0,.nils,.int .i64 0,.int .i64 0],none⟩
def r145:TR:=⟨.strct false [],0,0,[],none⟩
def r151:TR:=⟨.strct false [(0,149),(1,150)],2,32,[.nilp,.nils],none⟩
def r163:TR:=⟨.strct true [(0,3),(1,3),(2,3),(3,3)],4,32,[.int .i64 0,.int .i64 0,.int .i64 0,.int .i64 0],none⟩
def r225:TR:=⟨.strct true [(0,5),(1,5)],2,2,[.int .u8 0,.int .u8 0],none⟩
def r243:TR:=⟨.strct false [(0,9),(1,9),(2,155)],3,48,[.str [],.str [],.nilif],none⟩
def r258:TR:=⟨.strct true [(0,9)],1,16,[.str []],none⟩
def r272:TR:=⟨.strct false [(0,17),(1,17),(2,17),(3,9)],4,40,[.nilp,.nilp,.nilp,.str []],none⟩
def r283:TR:=⟨.strct false [(0,12),(1,12),(2,239),(3,278),(4,5),(5,5),(6,279),(7,280),(8,198),(9,281),(10,282)],11,48,[.int .u64 0,.int .u64 0,.int .u32 0,.int .u8 0,.int .u8 0,.int .u8 0,.int .u8 0,.undef,.nilp,.int .i32 0,.int .i32 0],none⟩
def tbl:List (Nat×TR):=[(1,r1),
 (2,r2),
 (3,r2),
 (4,⟨.bool,1,1,[.bool false],some .bool⟩),
 (5,r5),
 (6,r5),
 (7,r7),
 (8,r7),
 (9,r9),
 (10,r9),
 (11,r9),
 (12,r12),
 (13,r13),
 (14,r13),
 (15,⟨.ptr 273,1,8,[.nilp],none⟩),
 (16,⟨.ptr 276,1,8,[.nilp],none⟩),
 (17,⟨.ptr 284,1,8,[.nilp],none⟩),
 (18,r18),
 (19,r18),
 (20,r20),
 (21,r21),
 (22,⟨.slice 56,1,24,[.nils],some (.lst (.st .token))⟩),
 (23,r1),
 (24,r1),
 (25,⟨.slice 9,1,24,[.nils],some (.lst .str)⟩),
 (26,⟨.slice 28,1,24,[.nils],some (.lst (.st .shape))⟩),
 (27,⟨.strct false [(0,3),(1,9),(2,9),(3,25),(4,26)],5,88,[.int .i64 0,.str [],.str [],.nils,.nils],none⟩),
 (28,⟨.strct false [(0,3),(1,9),(2,9),(3,25),(4,26)],5,88,[.int .i64 0,.str [],.str [],.nils,.nils],some (.st .shape)⟩),
 (29,r2),
 (30,⟨.strct true [(0,29),(1,3)],2,16,[.int .i64 0,.int .i64 0],none⟩),
 (31,⟨.strct true [(0,29),(1,3)],2,16,[.int .i64 0,.int .i64 0],some (.st .fault)⟩),
 (33,r1),
 (34,r1),
 (35,r1),
 (36,⟨.slice 38,1,24,[.nils],some (.lst (.st .term))⟩),
 (37,⟨.strct false [(0,3),(1,9),(2,9),(3,3),(4,25),(5,25),(6,26),(7,36),(8,3)],9,152,[.int .i64 0,.str [],.str [],.int .i64 0,.nils,.nils,.nils,.nils,.int .i64 0],none⟩),
 (38,⟨.strct false [(0,3),(1,9),(2,9),(3,3),(4,25),(5,25),(6,26),(7,36),(8,3)],9,152,[.int .i64 0,.str [],.str [],.int .i64 0,.nils,.nils,.nils,.nils,.int .i64 0],some (.st .term)⟩),
 (40,r1),
 (41,r1),
 (43,r1),
 (45,r1),
 (46,r1),
 (48,r1),
 (49,r1),
 (50,r1),
 (52,r1),
 (53,r1),
 (54,r1),
 (55,⟨.strct true [(0,3),(1,9),(2,3)],3,32,[.int .i64 0,.str [],.int .i64 0],none⟩),
 (56,⟨.strct true [(0,3),(1,9),(2,3)],3,32,[.int .i64 0,.str [],.int .i64 0],some (.st .token)⟩),
 (57,⟨.ptr 62,1,8,[.nilp],none⟩),
 (58,r1),
 (59,⟨.strct false [(0,22),(1,3),(2,31)],4,48,[.nils,.int .i64 0,.int .i64 0,.int .i64 0],none⟩),
 (60,⟨.strct false [(0,22),(1,3),(2,31)],4,48,[.nils,.int .i64 0,.int .i64 0,.int .i64 0],some (.st .par)⟩),
 (61,⟨.strct false [(0,60)],4,48,[.nils,.int .i64 0,.int .i64 0,.int .i64 0],none⟩),
 (62,⟨.strct false [(0,60)],4,48,[.nils,.int .i64 0,.int .i64 0,.int .i64 0],some (.st .par)⟩),
 (63,r1),
 (65,r1),
 (66,r1),
 (67,r1),
 (68,r1),
 (69,r1),
 (70,r1),
 (71,r1),
 (72,r1),
 (74,r1),
 (75,r1),
 (76,r1),
 (77,r1),
 (78,r1),
 (79,r1),
 (80,r1),
 (81,r1),
 (82,⟨.ptr 60,1,8,[.nilp],none⟩),
 (83,r1),
 (84,r1),
 (85,r1),
 (86,r1),
 (87,r1),
 (89,r1),
 (90,r1),
 (91,r1),
 (93,r1),
 (94,r1),
 (95,r1),
 (96,r1),
 (97,r1),
 (98,r1),
 (99,⟨.ptr 103,1,8,[.nilp],none⟩),
 (100,r100),
 (101,r100),
 (102,r102),
 (103,r102),
 (104,r1),
 (105,r1),
 (106,r1),
 (107,r1),
 (108,r1),
 (110,r1),
 (111,r1),
 (112,r1),
 (114,r1),
 (115,r1),
 (116,r1),
 (117,r1),
 (118,r1),
 (119,r1),
 (120,r1),
 (121,r1),
 (122,r1),
 (123,r1),
 (124,r1),
 (125,r1),
 (126,r1),
 (127,r1),
 (128,⟨.ptr 101,1,8,[.nilp],none⟩),
 (129,⟨.slice 3,1,24,[.nils],some (.lst (.int .i64))⟩),
 (131,r1),
 (132,r1),
 (133,r1),
 (134,r1),
 (135,⟨.strct true [(0,3),(1,3),(2,3),(3,9)],4,40,[.int .i64 0,.int .i64 0,.int .i64 0,.str []],none⟩),
 (136,⟨.strct true [(0,3),(1,3),(2,3),(3,9)],4,40,[.int .i64 0,.int .i64 0,.int .i64 0,.str []],some (.st .version)⟩),
 (138,r1),
 (140,r1),
 (141,r1),
 (142,r1),
 (144,r1),
 (145,r145),
 (146,r145),
 (148,r1),
 (149,⟨.ptr 152,1,8,[.nilp],none⟩),
 (150,⟨.slice 5,1,24,[.nils],some (.lst (.int .u8))⟩),
 (151,r151),
 (152,r151),
 (153,r1),
 (154,r20),
 (155,r20),
 (157,r1),
 (158,r1),
 (159,r1),
 (160,r1),
 (161,r1),
 (162,r1),
 (163,r163),
 (164,r163),
 (165,r1),
 (166,r1),
 (167,r1),
 (168,r1),
 (169,r1),
 (170,r1),
 (171,r1),
 (172,r1),
 (174,r1),
 (175,r1),
 (176,r1),
 (180,r1),
 (181,r1),
 (182,⟨.ptr 178,1,8,[.nilp],none⟩),
 (184,r1),
 (185,r1),
 (186,⟨.arr 3 3,3,24,[.int .i64 0,.int .i64 0,.int .i64 0],none⟩),
 (187,r1),
 (188,r1),
 (189,r1),
 (190,r1),
 (191,r1),
 (193,r1),
 (194,r1),
 (195,r1),
 (196,r1),
 (197,r1),
 (198,⟨.ptr 5,1,8,[.nilp],none⟩),
 (199,r1),
 (200,r1),
 (201,r1),
 (202,r1),
 (203,r1),
 (204,r1),
 (205,r1),
 (206,r1),
 (208,r1),
 (209,r1),
 (211,r12),
 (212,r1),
 (213,r1),
 (215,r1),
 (216,r2),
 (218,r1),
 (219,⟨.ptr 244,1,8,[.nilp],none⟩),
 (220,r1),
 (221,r1),
 (222,r1),
 (223,r1),
 (225,r225),
 (226,r225),
 (228,r12),
 (229,r1),
 (230,r1),
 (231,r1),
 (232,r1),
 (233,r1),
 (234,r1),
 (235,r1),
 (236,r1),
 (237,r1),
 (239,⟨.int .u32,1,4,[.int .u32 0],some (.int .u32)⟩),
 (242,r1),
 (243,r243),
 (244,r243),
 (245,r1),
 (246,r1),
 (247,r1),
 (248,r2),
 (250,r1),
 (251,r1),
 (252,r1),
 (254,r1),
 (255,r1),
 (256,r1),
 (257,⟨.ptr 259,1,8,[.nilp],none⟩),
 (258,r258),
 (259,r258),
 (261,r1),
 (262,r12),
 (263,r1),
 (264,r1),
 (265,r1),
 (266,⟨.ptr 3,1,8,[.nilp],none⟩),
 (267,r1),
 (270,⟨.ptr 262,1,8,[.nilp],none⟩),
 (271,r1),
 (272,r272),
 (273,r272),
 (277,r1),
 (278,r5),
 (279,r5),
 (280,r1),
 (281,r21),
 (282,r21),
 (283,r283),
 (284,r283)]
theorem tk{t:Nat}{r:TR}(h1:(Tryz.prog.info? t).map (fun i=>(i.size,i.bytes,i.zero.map fun z=>z.cells.toList.map cI))=some (r.size,r.bytes,some r.zero):=by kernel_rfl)
 (h2:(Tryz.prog.underlying t).map (bG Tryz.prog r.ti)=some true:=by kernel_rfl)
 (h3:(gh r.zero r.size&&(Nat.beq r.size 0||Nat.blt 0 r.bytes)&&(match r.ty with | some τ=>Nat.beq (ad τ) r.size&&(EH τ ==r.isAgg) | none=>true))=true:=by kernel_rfl)
 (h8:(Tryz.prog.info? t).map (fun i=>i.zero.map fun z=>xI z ==r.isAgg)=some (some true):=by kernel_rfl)
 (h9:(match r.ti with|.strct true _=>!Tryz.prog.stoodInHeld t&&!Tryz.prog.eqGuardType Tryz.prog.depth t|_=>true)=true:=by kernel_rfl):TRok Tryz.prog t r:=TRok.mk' h1 h2 h3 h8 h9
theorem Dr:bV Tryz.prog tbl:=
 .cons tk (.cons tk (.cons tk (.cons tk (.cons tk (.cons tk (.cons tk (.cons tk (.cons tk (.cons tk (.cons tk (.cons tk (.cons tk (.cons tk (.cons tk (.cons tk (.cons tk (.cons tk (.cons tk (.cons tk (.cons tk (.cons tk (.cons tk (.cons tk (.cons tk (.cons tk (.cons tk (.cons tk (.cons tk (.cons tk (.cons tk (.cons tk (.cons tk (.cons tk (.cons tk (.cons tk (.cons tk (.cons tk (.cons tk (.cons tk (.cons tk (.cons tk (.cons tk (.cons tk (.cons tk (.cons tk (.cons tk (.cons tk (.cons tk (.cons tk (.cons tk (.cons tk (.cons tk (.cons tk (.cons tk (.cons tk (.cons tk (.cons tk (.cons tk (.cons tk (.cons tk (.cons tk (.cons tk (.cons tk (.cons tk (.cons tk (.cons tk (.cons tk (.cons tk (.cons tk (.cons tk (.cons tk (.cons tk (.cons tk (.cons tk (.cons tk (.cons tk (.cons tk (.cons tk (.cons tk (.cons tk (.cons tk (.cons tk (.cons tk (.cons tk (.cons tk (.cons tk (.cons tk (.cons tk (.cons tk (.cons tk (.cons tk (.cons tk (.cons tk (.cons tk (.cons tk (.cons tk (.cons tk (.cons tk (.cons tk (.cons tk (.cons tk (.cons tk (.cons tk (.cons tk (.cons tk (.cons tk (.cons tk (.cons tk (.cons tk (.cons tk (.cons tk (.cons tk (.cons tk (.cons tk (.cons tk (.cons tk (.cons tk (.cons tk (.cons tk (.cons tk (.cons tk (.cons tk (.cons tk (.cons tk (.cons tk (.cons tk (.cons tk (.cons tk (.cons tk (.cons tk (.cons tk (.cons tk (.cons tk (.cons tk (.cons tk (.cons tk (.cons tk (.cons tk (.cons tk (.cons tk (.cons tk (.cons tk (.cons tk (.cons tk (.cons tk (.cons tk (.cons tk (.cons tk (.cons tk (.cons tk (.cons tk (.cons tk (.cons tk (.cons tk (.cons tk (.cons tk (.cons tk (.cons tk (.cons tk (.cons tk (.cons tk (.cons tk (.cons tk (.cons tk (.cons tk (.cons tk (.cons tk (.cons tk (.cons tk (.cons tk (.cons tk (.cons tk (.cons tk (.cons tk (.cons tk (.cons tk (.cons tk (.cons tk (.cons tk (.cons tk (.cons tk (.cons tk (.cons tk (.cons tk (.cons tk (.cons tk (.cons tk (.cons tk (.cons tk (.cons tk (.cons tk (.cons tk (.cons tk (.cons tk (.cons tk (.cons tk (.cons tk (.cons tk (.cons tk (.cons tk (.cons tk (.cons tk (.cons tk (.cons tk (.cons tk (.cons tk (.cons tk (.cons tk (.cons tk (.cons tk (.cons tk (.cons tk (.cons tk (.cons tk (.cons tk (.cons tk (.cons tk (.cons tk (.cons tk (.cons tk (.cons tk (.cons tk (.cons tk (.cons tk (.cons tk (.cons tk (.cons tk (.cons tk (.cons tk (.cons tk (.cons tk (.cons tk (.cons tk (.cons tk (.cons tk (.cons tk (.cons tk (.cons tk (.cons tk (.cons tk (.cons tk (.cons tk (.nil)))))))))))))))))))))))))))))))))))))))))))))))))))))))))))))))))))))))))))))))))))))))))))))))))))))))))))))))))))))))))))))))))))))))))))))))))))))))))))))))))))))))))))))))))))))))))))))))))))))))))))))))))))))))))))))))))))))))))))))))))))
theorem mixed:Tryz.prog.follows .mixedOrders=true:=by kernel_rfl
end Go.AL.Seat
end
section
namespace Go.AL
variable [Tabs]
def Gz:AV->Bool
 |.ptr k 0=>cN k
 |_=>false
def ptrIn(ks:List Nat):AV->Bool
 |.ptr k _=>ks.contains k
 |_=>false
def Fe(ks:List Nat)(t:List (Nat×AV)):List (Nat×AV):=t.map fun x=>(x.1,if ptrIn ks x.2 then x.2 else .undef)
structure RC where
 r0:Code
 rest:Code
 crest:Code
 t5:Nat
 caps:List Operand
 t6:Nat
 t3:Nat
def GA(g:Nat)(c cc:Code):Option RC:=
 match c,cc with
 |.seq r0 (.seq (.region _ o1 false) rest),.seq (.region _ o2 false) crest=>
  match o1.toList,o2.toList with
  |[⟨some t5,.makeFunc (.func g') fst caps,_,_,_,none⟩,⟨none,.defer ⟨.value (.tmp t5'),asx,_⟩,_,_,_,none⟩],
   [⟨some t6,.call ⟨.builtin .recover,as2,_⟩,_,_,_,none⟩,⟨some t3,.assign (.tmp t6'),_,_,_,none⟩]=>
   if Nat.beq g' g&&Nat.beq t5' t5&&Nat.beq t6' t6&&fst.isEmpty&&asx.isEmpty&&as2.isEmpty then some ⟨r0,rest,crest,t5,caps.toList,t6,t3⟩else none
  |_,_=>none
 |_,_=>none
def Ds(C:Cfg)(rs:List ResultVar)(L:List dG)(s1:St)(S1:List (Nat×SObj))(S:List (Nat×SObj))(A:Ans)(t2:List (Nat×AV))(s3:St):Prop:=
 match cJ (aq s3.b)&&(aq S1).all (fun k=>(aq s3.b).contains k)with
 |true=>
  match mI C.tbl ⟨Fe (aq S1) t2,s3.b⟩ rs with
  |some l=>
   (match kf (aD s1.b) L 998 (gF S1 s3.b),mapVs (o7 L 998) (gE L 998) (gE L 998) l with
   |some u',some l'=>ij ⟨[],putB s1.b u'⟩ fun s4=>s7 (some l') s4 A.val (putB S A.upd)
   |_,_=>False)
  |none=>False
 |false=>False
def vW(C:Cfg)(annC:An)(clo:Func)(R:RC)(caps:List AV)(v:AV)(s2:St)(fin:St->Prop):Prop:=
 iN (List.range clo.ntmps) fun keep=>ij ⟨pw (eK 0 caps) R.t3 v,s2.b⟩ fun s=>swp C keep annC R.crest s fun
  |.exit _,_=>False
  |.pan _,_=>False
  |_,s3=>fin s3
def fwpR(C:Cfg)(ann annC:An)(fn:Func)(g:Nat)(clo:Func)(args:List AV)(S:List (Nat×SObj))(A:Ans):Prop:=
 match fn.body,clo.body,A.pan with
 |some c,some cc,none=>
  match GA g c cc with
  |none=>False
  |some R=>
   match dr fn.ntmps c&&dr clo.ntmps cc&&Nat.blt R.t5 fn.ntmps&&mF args fn.ntmps&&(aq S).all cN&&clo.results.isEmpty&&mF R.caps clo.ntmps&&mF R.caps R.t6 with
   |false=>False
   |true=>iN ((List.range fn.ntmps)) fun keep=>ij ⟨eK 0 args,S⟩ fun i=>swp C keep ann R.r0 i fun
    |.normal,s1=>
     (match(aq s1.b).map (fun i=>(i,(none:Option (Nat×Nat))))with
     |L=>
      (match cJ (L.map (·.1))&&Nat.ble L.length 100,mapVs (toP L) (toI L) (toI L) ((List.range fn.ntmps).map (cm s1.t)),mapVs (toP L) (toI L) (toI L) (R.caps.map (opd (cm s1.t))),mG (aD s1.b) L L 900 with
      |true,some as1,some caps,some S1=>
       (match caps.all Gz with
       |true=>ij ⟨pw (eK 0 as1) R.t5 .undef,S1⟩ fun i=>swp C keep ann R.rest i fun
        |.exit _,_=>False
        |.pan v,s2=>vW C annC clo R caps v s2 (Ds C fn.results.toList L s1 S1 S A s2.t)
        |_,s2=>vW C annC clo R caps .nilif s2 (Ds C fn.results.toList L s1 S1 S A s2.t)
       |false=>False)
      |_,_,_,_=>False))
    |_,_=>False
 |_,_,_=>False
theorem sA:∀(u S:List (Nat×SObj))(i:Nat),cJ (u.map (·.1))=true->aD (putB S u) i=(aD u i).or (aD S i)
 |[],S,i,_=>by simp[putB,aD]
 |(j,o)::r,S,i,h=>by
  simp only[HN,cJ,Hk,HB]at h;simp only[putB];rw[sA r _ i h.2,jm];simp only[aD];by_cases e:j=i
  ·subst e
   have:aD r j=none:=by
    cases hb:aD r j with|none=>rfl|some o'=>have:=dE r j o' hb;have h1:=h.1;simp only[Il,HI,I7,not_exists,not_and]at h1;exact absurd rfl (h1 _ this)
   simp[this]
  ·simp[e]
section
variable {P:Program} {C:Cfg}
theorem V.pinned{e0 e:Nat->Option CObj}{w0 w:World}{p0 p:Nat->Nat->Prop}(hk:∀id c,e0 id=some c->∃c',e id=some c'/\CLe c c'){a:AV}{v:Value}(ha:Gz a=true)(h:V ⟨e0,w0,p0⟩ a v):V ⟨e,w,p⟩ a v:=by
 cases h with
 |ptr i o b q len he=>obtain⟨c',h1,h2⟩:=hk i _ he;have:=h2.box;subst this;exact .ptr i o b q len h1
 |_=>simp[Gz]at ha
theorem Holds.retmp'{F:Fr}{s:AS}{a a':Act}{Ω:Om}(h:Holds F s a Ω){n:Nat}{ds:List Deferred}{T:Nat->AV}(hT:∀i,V Ω (T i) (a'.tmps.getD i undef))(hs:a'.tmps.size=n)(hd:a'.defers=ds) :
  Holds ⟨F.w0,F.pub0,n,F.e0,F.dom0,ds,F.tab0⟩ ⟨T,s.B⟩ a' Ω:=
 ⟨hT,hs,hd,h.slots,h.dom,h.inj,h.pubok,h.keep,⟨h.frame.os,h.frame.tape,h.frame.output,h.frame.size,h.frame.block,h.frame.cell,h.frame.kind,h.frame.pub,h.frame.old,h.frame.pcell⟩⟩
inductive Rcv:FrameMode->AV->Om->Value->FrameMode->Prop
 |ret (Ω:Om):Rcv .returning .nilif Ω .nilIface .returning
 |pan (Ω:Om) (a:AV) (v:Value):V Ω a v->Rcv (.panicking [{v,recovered:=false}]) a Ω v (.panicking [{v,recovered:=true}])
structure RCcode(g:Nat)(R:RC)(c cc:Code):Prop where
 code:∃i1 i2 ty1 ps1 af1 ty2 ps2 af2 ts2 ty3 ps3 af3 ts3 ty4 ps4 af4,
  c=.seq R.r0 (.seq (.region i1 #[⟨some R.t5,.makeFunc (.func g) #[] R.caps.toArray,ty1,ps1,af1,none⟩,⟨none,.defer ⟨.value (.tmp R.t5),#[],ts2⟩,ty2,ps2,af2,none⟩] false) R.rest)/\
  cc=.seq (.region i2 #[⟨some R.t6,.call ⟨.builtin .recover,#[],ts3⟩,ty3,ps3,af3,none⟩,⟨some R.t3,.assign (.tmp R.t6),ty4,ps4,af4,none⟩] false) R.crest
theorem Dt{g:Nat}{c cc:Code}{R:RC}(h:GA g c cc=some R):RCcode g R c cc:=by
 unfold GA at h;split at h
 ·rename_i r0 i1 o1 rest i2 o2 crest;split at h
  ·rename_i h1 h2;split at h
   ·rename_i hc;simp only[Hk,Nat.beq_eq,Array.isEmpty_iff]at hc;obtain⟨⟨⟨⟨⟨rfl,rfl⟩,rfl⟩,rfl⟩,rfl⟩,rfl⟩:=hc;simp only[Xs]at h;subst h;have e1:=Jj List.toArray h1;have e2:=Jj List.toArray h2;simp only[IK]at e1 e2;subst e1 e2;exact⟨_,_,_,_,_,_,_,_,_,_,_,_,_,_,_,_,rfl,rfl⟩
   ·cases h
  ·cases h
 ·cases h
theorem oB{ts:Array Nat}{d:Option Nat}{ty:Nat}{ps:String}{af:Array Edge}{ρ:Operand->Value}{w:World} :
  (execOp ρ ⟨d,.call ⟨.builtin .recover,#[],ts⟩,ty,ps,af,none⟩).run P w=.ok .recover w:=by
 simp[execOp,resolve,invoke,builtin]
theorem yo(hm:P.follows .mixedOrders=true)(hT:bV P C.tbl)(hS:dA P C.spec){g:Nat}{clo:Func}{c cc:Code}{R:RC}(hR:RCcode g R c cc)(hg:P.funcs[g]?=some clo)(hb:clo.body=some cc)
 (hd:dr clo.ntmps cc=true)(hres:clo.results=#[]){caps:List AV}(hcl:caps.length<=clo.ntmps)(hc6:caps.length<=R.t6){F:Fr}{s2:St}{a2:Act}{Ω2:Om}(h:Holds F s2.abs a2 Ω2){vs:List Value}(hv:VL Ω2 caps vs)
 {u u':FrameMode}{av:AV}{v:Value}(hrc:Rcv u av Ω2 v u'){annC:An}{fin:St->Prop}(hc:vW C annC clo R caps av s2 fin) :
  CallsD P g vs.toArray u Ω2.w fun en u2 w'=>u2=u'/\en=.returned (.tuple #[])/\∃s3 Ω3 a3 T,Ω3.w=w'/\fin s3/\Holds ⟨F.w0,F.pub0,clo.ntmps,F.e0,F.dom0,[],F.tab0⟩ ⟨T,aD s3.b⟩ a3 Ω3:=by
 obtain⟨i1,i2,ty1,ps1,af1,ty2,ps2,af2,ts2,ty3,ps3,af3,ts3,ty4,ps4,af4,_,rfl⟩:=hR;refine callsD_of_wpS hg hb (fun c₀ cs hu=>?_);apply wpS_seq;apply wpS_region;simp only[dr,Hk,HZ,JW,IP,Jw]at hd;obtain⟨⟨hd6,hd3⟩,hdc⟩:=hd;have hvs:vs.length<=clo.ntmps:=by rw[<-hv.1];exact hcl
 have hbase:Holds ⟨F.w0,F.pub0,clo.ntmps,F.e0,F.dom0,[],F.tab0⟩ ⟨cm (eK 0 caps),aD s2.b⟩ {tmps:=vs.toArray++Array.replicate (clo.ntmps-vs.toArray.size) undef,defers:=[]} Ω2:=
  h.retmp' (fun i=>jq _ hv i) (by simp;omega) rfl
 have key:∃cs',(∃c1,cs'=c1::cs/\c1={c₀ with mode:=u'})/\∀Q':Exit->Act->List Frame->World->Prop,Q' .normal (({tmps:=vs.toArray++Array.replicate (clo.ntmps-vs.toArray.size) undef,defers:=[]}:Act).put (some R.t6) v|>.put (some R.t3) v) cs' Ω2.w->
   wpOpsS P #[⟨some R.t6,.call ⟨.builtin .recover,#[],ts3⟩,ty3,ps3,af3,none⟩,⟨some R.t3,.assign (.tmp R.t6),ty4,ps4,af4,none⟩] Q' [0,1] {tmps:=vs.toArray++Array.replicate (clo.ntmps-vs.toArray.size) undef,defers:=[]} (c₀::cs) Ω2.w:=by
  have two:∀(cs':List Frame)(Q':Exit->Act->List Frame->World->Prop),Q' .normal (({tmps:=vs.toArray++Array.replicate (clo.ntmps-vs.toArray.size) undef,defers:=[]}:Act).put (some R.t6) v|>.put (some R.t3) v) cs' Ω2.w->
    wpOpsS P #[⟨some R.t6,.call ⟨.builtin .recover,#[],ts3⟩,ty3,ps3,af3,none⟩,⟨some R.t3,.assign (.tmp R.t6),ty4,ps4,af4,none⟩] Q' [1] (({tmps:=vs.toArray++Array.replicate (clo.ntmps-vs.toArray.size) undef,defers:=[]}:Act).put (some R.t6) v) cs' Ω2.w:=by
   intro cs' Q' hq;have he:(({tmps:=vs.toArray++Array.replicate (clo.ntmps-vs.toArray.size) undef,defers:=[]}:Act).put (some R.t6) v).eval (.tmp R.t6)=v:=by show(Act.put _ (some R.t6) v).tmps.getD R.t6 undef=v;rw[zS hbase.size hd6,Hj rfl]
   unfold wpOpsS;simp only[Ib,Jn,IC,Region.wanted,Ia];have hr:(execOp (({tmps:=vs.toArray++Array.replicate (clo.ntmps-vs.toArray.size) undef,defers:=[]}:Act).put (some R.t6) v).eval ⟨some R.t3,.assign (.tmp R.t6),ty4,ps4,af4,none⟩).run P Ω2.w=.ok (.value v) Ω2.w:=by show(pure (Next.value (Act.eval _ (.tmp R.t6))):Sem Next).run P Ω2.w=_;rw[he];rfl
   rw[hr];simp only[Oper.upon];exact hq
  cases hrc with|ret=>refine⟨_,⟨c₀,rfl,by cases c₀;simp only at hu;subst hu;rfl⟩,fun Q' hq=>?_⟩;unfold wpOpsS;simp only[Ib,IC,Region.wanted,Ia];rw[oB];simp only[recoverD,hu];exact two _ Q' hq|pan _ _ hv'=>refine⟨_,⟨_,rfl,rfl⟩,fun Q' hq=>?_⟩;unfold wpOpsS;simp only[Ib,IC,Region.wanted,Ia];rw[oB];simp only[recoverD,hu];exact two _ Q' hq
 obtain⟨cs',⟨c1,rfl,hc1⟩,key⟩:=key;refine key _ ?_;refine wpS_of_wp ?_;unfold vW at hc;rw[iw,eR]at hc
 have hav:V Ω2 av v:=by
  cases hrc<;>first|exact .nilif|assumption
 have h1:=(hbase.pure (dst:=some R.t6) (val:=.undef) (v:=v) (.undef v) (fun d e=>by cases e;exact hd6)).pure (dst:=some R.t3) (val:=av) (v:=v) hav (fun d e=>by cases e;exact hd3)
 have h2:Holds ⟨F.w0,F.pub0,clo.ntmps,F.e0,F.dom0,[],F.tab0⟩ (St.abs ⟨pw (eK 0 caps) R.t3 av,s2.b⟩) _ Ω2:=h1.weak (s':=St.abs ⟨pw (eK 0 caps) R.t3 av,s2.b⟩) (fun i=>by
  simp only[St.abs,jl,dH];by_cases e3:R.t3=i
  ·right;simp[e3]
  ·by_cases e6:R.t6=i
   ·left;subst e6;rw[Hh e3,jo,Hj (Hz _),Jr];simp[Hl,Hn hc6]
   ·right;simp[e3,e6]) rfl
 refine JF (lf hm hT hS _ annC R.crest _ _ _ Ω2 hc hdc h2) ?_;intro e a' w' hq;obtain⟨z,s3,Ω3,q1,q2,q3,q4⟩:=hq;have fin3:fin s3->bodyPostS P clo c₀ cs (fun en u2 w'=>u2=u'/\en=.returned (.tuple #[])/\∃s3 Ω3 a3 T,Ω3.w=w'/\fin s3/\Holds ⟨F.w0,F.pub0,clo.ntmps,F.e0,F.dom0,[],F.tab0⟩ ⟨T,aD s3.b⟩ a3 Ω3) .ret a' (c1::cs) w':=by intro hf;refine⟨q3.defers,u',by rw[hc1],.tuple #[],by simp[results,hres],rfl,rfl,s3,Ω3,a',_,q2,hf,q3⟩
 cases z with
 |normal=>cases q1;exact fin3 q4
 |ret=>cases q1;exact fin3 q4
 |exit id=>exact q4.elim
 |pan v=>exact q4.elim
theorem B9{w:World}{pub:Nat->Nat->Prop}{e:Nat->Option CObj}{n:Nat}{hl:∀id c,e id=some c->cN id=true}{ds:List Deferred}{ht:j6 w pub}{T:Nat->AV}{t:List (Nat×AV)}{b b':List (Nat×SObj)}{a:Act}{Ω:Om}{l:List AV}{us:List Value}{val:AV}
 (hh:Holds ⟨w,pub,n,e,hl,ds,ht⟩ ⟨T,aD b⟩ a Ω)(k2:VL Ω l us)(hend:s7 (some l) ⟨t,b⟩ val b') :
  ∃pub' e',V ⟨e',Ω.w,pub'⟩ val (if h:us.toArray.size=1 then us.toArray[0]else .tuple us.toArray)/\After w pub e (aD b') Ω.w pub' e':=by
 unfold s7 at hend;split at hend
 ·rename_i x hres;cases hres;obtain⟨u,rfl⟩:=mW (by rw[<-k2.1];rfl);have h1:=hh.retmp' (T:=cm (eK 0 [x])) (a':={tmps:=[u].toArray++Array.replicate 0 undef,defers:=[]}) (n:=1) (ds:=[]) (fun i=>jq 0 k2 i) (by simp) rfl;obtain⟨Ω2,e2,hh2⟩:=eF (s:=⟨[(0,x)],b⟩) h1 (gK hend);refine⟨Ω2.pub,Ω2.e,?_,?_⟩
  ·have:=hh2.tmps 0;rw[<-e2];exact this
  ·rw[<-e2];exact jr hh2
 ·rename_i l' hne hres;cases hres;split at hend
  ·rename_i rs;split at hend
   ·rename_i hln;have hl2:=cz _ _ hln;have h1:=hh.retmp' (T:=cm (eK 0 l)) (a':={tmps:=us.toArray++Array.replicate 0 undef,defers:=[]}) (n:=us.length) (ds:=[]) (fun i=>jq 0 k2 i) (by simp) rfl;obtain⟨Ω2,e2,hh2⟩:=eF (s:=⟨eK 0 l,b⟩) h1 (gK hend);have hsz:¬us.toArray.size=1:=by intro h1;obtain⟨x,hx⟩:=mW (l:=l) (by rw[k2.1];simpa using h1);exact hne x hx
    rw[dif_neg hsz];refine⟨Ω2.pub,Ω2.e,?_,?_⟩
    ·refine .tup rs us (by rw[<-k2.1,<-hl2]) (fun j c v hc hv=>?_);have:=hh2.tmps j;simp only[St.abs,jo,Hz,Ia,Jr,Hl,hc,Ic]at this;have e3:(us.toArray++Array.replicate 0 undef).getD j undef=v:=by simp[Hx,hv]
     rw[e3]at this;rw[<-e2];exact this
    ·rw[<-e2];exact jr hh2
   ·exact hend.elim
  ·exact hend.elim
 ·rename_i h;cases h
theorem CLe.to_box{c:CObj}{b o l:Nat}(h:CLe c (.box b o l)):c=.box b o l:=by cases c<;>simp[CLe]at h;obtain⟨rfl,rfl,rfl⟩:=h;rfl
theorem V.ptrIn{F:Fr}{Ω2 Ω3:Om}{ks:List Nat}(h2:∀id c,F.e0 id=some c->∃c',Ω2.e id=some c'/\CLe c c')(h3:∀id c,F.e0 id=some c->∃c',Ω3.e id=some c'/\CLe c c')
 (hk:∀k∈ks,∃c,F.e0 k=some c){a:AV}{v:Value}(h:V Ω2 a v):V Ω3 (if AL.ptrIn ks a=true then a else .undef) v:=by
 split
 ·rename_i hp
  cases h with
  |ptr i o b q len he=>simp only[AL.ptrIn,Il,Hq]at hp;obtain⟨c,hc⟩:=hk i hp;obtain⟨c2,e2,l2⟩:=h2 i c hc;rw[he]at e2;cases e2;have:=l2.to_box;subst this;obtain⟨c3,e3,l3⟩:=h3 i _ hc;have:=l3.box;subst this;exact .ptr i o b q len e3
  |_=>simp[AL.ptrIn]at hp
 ·exact .undef v
theorem Ba(hT:bV P C.tbl){w:World}{pub:Nat->Nat->Prop}{e:Nat->Option CObj}{n n1:Nat}{hl:∀id c,e id=some c->cN id=true}{ht:j6 w pub}{s1:St}{a1:Act}{Ω1:Om}{ht1:j6 Ω1.w Ω1.pub}(h3:Holds ⟨w,pub,n,e,hl,[],ht⟩ s1.abs a1 Ω1)
 {L:List dG}(hdist:cJ (L.map (·.1))=true){S1:List (Nat×SObj)}(hS1:mG (aD s1.b) L L 900=some S1){hl1:∀id c,dC L Ω1.e id=some c->cN id=true}(hk1:∀k∈aq S1,∃c,dC L Ω1.e k=some c)
 {ds:List Deferred}{s2:St}{a2:Act}{Ω2:Om}(q3:Holds ⟨Ω1.w,Ω1.pub,n,dC L Ω1.e,hl1,ds,ht1⟩ s2.abs a2 Ω2){s3:St}{a3:Act}{Ω3:Om}{T:Nat->AV}(h5:Holds ⟨Ω1.w,Ω1.pub,n1,dC L Ω1.e,hl1,[],ht1⟩ ⟨T,aD s3.b⟩ a3 Ω3)
 {fn:Func}{S:List (Nat×SObj)}{A:Ans}(hpan:A.pan=none)(hf:Ds C fn.results.toList L s1 S1 S A s2.t s3) :
  ∃v,(results fn a2.tmps).run P Ω3.w=.ok v Ω3.w/\∃pub' e',(∀b pv u,A.pan=some (b,pv,u)->b=false)/\V ⟨e',Ω3.w,pub'⟩ A.val v/\After w pub e (aD (putB S A.upd)) Ω3.w pub' e':=by
 unfold Ds at hf;split at hf
 ·rename_i hck;simp only[Hk,HE]at hck;obtain⟨hd3,hin⟩:=hck;split at hf
  ·rename_i l hres;split at hf
   ·rename_i u' l' hu' hl';rw[eR]at hf
    have hR:Holds ⟨Ω1.w,Ω1.pub,n,dC L Ω1.e,hl1,ds,ht1⟩ (St.abs ⟨Fe (aq S1) s2.t,s3.b⟩) a2 Ω3:=by
     have:=h5.retmp' (T:=cm (Fe (aq S1) s2.t)) (a':=a2) (n:=n) (ds:=ds) (fun i=>by
      rw[show cm (Fe (aq S1) s2.t) i=if ptrIn (aq S1) (cm s2.t i)=true then cm s2.t i else .undef from mU (fun x=>if ptrIn (aq S1) x=true then x else .undef) (by simp[ptrIn]) s2.t i];exact V.ptrIn (F:=⟨Ω1.w,Ω1.pub,n,dC L Ω1.e,hl1,ds,ht1⟩) q3.keep h5.keep hk1 (q3.tmps i)) q3.size q3.defers
     exact this
    obtain⟨us,k1,k2⟩:=gr hT hR _ _ hres;have hmap:(results fn a2.tmps).run P Ω3.w=.ok (if h:us.toArray.size=1 then us.toArray[0]else .tuple us.toArray) Ω3.w:=by rw[qd,<-IK (xs:=fn.results),JP];simp only[HD,Sem.run_map,k1,Hp,HQ]
    have hB:aD (putB S1 s3.b)=aD s3.b:=by
     funext i;rw[sA _ _ _ hd3]
     cases h:aD s3.b i with
     |some o=>rfl
     |none=>
      cases h':aD S1 i with|none=>rfl|some o=>have:=hin i (I7.2 ⟨(i,o),dE _ _ _ h',rfl⟩);simp only[Il,Hq]at this;exact absurd this (l9 _ _ h)
    have hA:After Ω1.w Ω1.pub (dC L Ω1.e) (aD (putB S1 s3.b)) Ω3.w Ω3.pub Ω3.e:=by rw[hB];exact jr (h5.retmp' (T:=T) (a':=a3) (n:=n1) (ds:=[]) h5.tmps h5.size h5.defers)
    obtain⟨Ω',w1,w2,w3⟩:=nI h3 (d:=998) (by omega) hdist hS1 hd3 hu' (val:=.tup l) (val':=.tup l') (by simp only[mapV,hl']) (v:=.tuple us.toArray) (V.of_tup k2) hA;obtain⟨us',e1,k3⟩:=w2.tup_inv;have e2:us=us':=by have:=Jj Array.toList (Value.tuple.inj e1);simpa using this
    subst e2;rw[show s1.abs.B=aD s1.b from rfl,<-ir]at w3;obtain⟨pub',e',p1,p2⟩:=B9 (T:=s1.abs.T) (b:=putB s1.b u') (t:=[]) w3 k3 hf;rw[w1]at p1 p2;exact⟨_,hmap,pub',e',(fun b pv u h=>by rw[hpan]at h;cases h),p1,p2⟩
   ·exact hf.elim
  ·exact hf.elim
 ·exact hf.elim
theorem fwpR_sound(hm:P.follows .mixedOrders=true)(hT:bV P C.tbl)(hS:dA P C.spec){ann annC:An}{f g:Nat}{fn clo:Func}(hf:P.funcs[f]?=some fn)(hg:P.funcs[g]?=some clo)
 (eg:∀args w,(callFunc g args).run P w=.ok (.enter g args) w){args:List AV}{S:List (Nat×SObj)}{A:Ans}(h:fwpR C ann annC fn g clo args S A):ay P f args S A:=by
 intro w pub e vs hp ht hv hs hdom hinj;unfold fwpR at h;split at h
 ·rename_i c cc hb hcb hpan;split at h
  ·exact h.elim
  ·rename_i R hR;split at h
   ·exact h.elim
   ·rename_i hck;simp only[Hk,HE,Array.isEmpty_iff,Jw]at hck;obtain⟨⟨⟨⟨⟨⟨⟨hk1,hk2⟩,hk5⟩,hk3⟩,hk4⟩,hres⟩,hcl⟩,hc6⟩:=hck;have hlen:=fg _ _ hk3;have hcl:=fg _ _ hcl;have hc6:=fg _ _ hc6;rw[iw,eR]at h
    have hlent:∀id c,e id=some c->cN id=true:=by
     intro id c hc
     cases hg:aD S id with
     |none=>rw[hdom id hg]at hc;cases hc
     |some o=>exact hk4 id (I7.2 ⟨(id,o),dE _ _ _ hg,rfl⟩)
    have hRc:=Dt hR;obtain⟨i1,i2,ty1,ps1,af1,ty2,ps2,af2,ts2,ty3,ps3,af3,ts3,ty4,ps4,af4,rfl,_⟩:=id hRc;refine calls_of_wp_defers hf hb ?_;have hh:=me (n:=fn.ntmps) hp ht hv hlen hs hdom hinj hlent;have hdr:dr fn.ntmps R.r0=true/\dr fn.ntmps R.rest=true:=by simp only[dr,Hk]at hk1;exact⟨hk1.1,hk1.2.2⟩
    refine wp_seq (JF (lf (F:=⟨w,pub,fn.ntmps,e,hlent,[],ht⟩) hm hT hS _ ann R.r0 _ _ _ _ h hdr.1 hh) ?_);intro en a1 w1 hq;obtain⟨z,s1,Ω1,q1,rfl,h3,h4⟩:=hq
    cases z with
    |exit id=>exact h4.elim
    |ret=>exact h4.elim
    |pan pv=>exact h4.elim
    |normal=>
     cases q1;simp only at h4;generalize hLL:(aq s1.b).map (fun i=>(i,(none:Option (Nat×Nat))))=L at h4;split at h4
     ·rename_i as1 caps S1 hdl has hcaps hS1;simp only[Hk,JH]at hdl;obtain⟨hdist,hL100⟩:=hdl;split at h4
      ·rename_i hcp;rw[eR]at h4;obtain⟨k1,k2,k3⟩:=hU L 900 S1 hS1;refine wp_seq (wp_region ?_);show wpOps P _ _ [0,1] a1 Ω1.w;refine vp (o:=⟨some R.t5,.makeFunc (.func g) #[] R.caps.toArray,ty1,ps1,af1,none⟩) rfl rfl (bm (v:=.func (.func g) #[] (R.caps.toArray.map a1.eval)) (w':=Ω1.w) (by simp[execOp,Instr.makeFunc]) ?_);have he5:(a1.put (some R.t5) (.func (.func g) #[] (R.caps.toArray.map a1.eval))).eval (.tmp R.t5)=.func (.func g) #[] (R.caps.toArray.map a1.eval):=by show(Act.put a1 (some R.t5) _).tmps.getD R.t5 undef=_;rw[zS h3.size hk5,Hj rfl]
       refine vp (o:=⟨none,.defer ⟨.value (.tmp R.t5),#[],ts2⟩,ty2,ps2,af2,none⟩) rfl rfl ?_;have hrun:(execOp (a1.put (some R.t5) (.func (.func g) #[] (R.caps.toArray.map a1.eval))).eval ⟨none,.defer ⟨.value (.tmp R.t5),#[],ts2⟩,ty2,ps2,af2,none⟩).run P Ω1.w=.ok (.defer {target:=.fn (.func g) (R.caps.toArray.map a1.eval),args:=#[]}) Ω1.w:=by have he5':=he5;simp only[List.map_toArray]at he5';simp[execOp,resolve,he5',Deferred.ofValue]
       unfold Oper.wp;rw[hrun];have hcv:R.caps.toArray.map a1.eval=(R.caps.map a1.eval).toArray:=by simp
       have hdef0:a1.defers=[]:=h3.defers
       have hvl1:VL Ω1 ((List.range fn.ntmps).map (cm s1.t)) a1.tmps.toList:=by
        have hz:a1.tmps.size=fn.ntmps:=h3.size;refine⟨by simp;omega,fun j c v hc hv=>?_⟩;simp only[HU,HA]at hc;obtain⟨q,hq,rfl⟩:=hc;have hqj:q=j:=by have:=Je.1 hq;obtain⟨_,e⟩:=this;simpa using e.symm
        subst hqj;have:=h3.tmps q;rw[HK]at hv;simp only[Hx,hv,Ic]at this;exact this
       have hvc1:VL Ω1 (R.caps.map (opd (cm s1.t))) (R.caps.map a1.eval):=by refine⟨by simp,fun j c v hc hv=>?_⟩;simp only[HU,HA]at hc hv;obtain⟨x,hx,rfl⟩:=hc;obtain⟨y,hy,rfl⟩:=hv;rw[hx]at hy;cases hy;exact bX h3 x
       have hvl:=hvl1.mapVs (kA L Ω1.e) has;have hvc:=hvc1.mapVs (kA L Ω1.e) hcaps;have hlent1:∀k i r,bu L k=some (i,r)->∃o o',s1.abs.B i=some o/\gI L r o=some o'/\aD S1 k=some o':=by intro k i r hk;obtain⟨h1,h2⟩:=fk hk;obtain⟨o,o',q1,q2,q3⟩:=k2 _ i r h2;rw[show 900+(k-900)=k by omega]at q3;exact⟨o,o',q1,q2,q3⟩
       have hLs:∀q i r,nth L q=some (i,r)->∃o o',s1.abs.B i=some o/\gI L r o=some o':=fun q i r hq=>let ⟨o,o',q1,q2,_⟩:=k2 q i r hq;⟨o,o',q1,q2⟩
       have hslots:∀id o,aD S1 id=some o->bB ⟨dC L Ω1.e,Ω1.w,Ω1.pub⟩ (fun _ _=>True) id o:=fun id o' ho'=>by obtain⟨q,i,r,o2,e1,e2,e3,e4⟩:=k1 id o' ho';subst e1;exact vg (dc (l7 L i 900 q r hdist e2)) (h3.slots i o2 e3) e4
       have hdom1:∀id,aD S1 id=none->dC L Ω1.e id=none:=fun id hid=>by
        unfold dC
        cases hl:bu L id with
        |none=>rfl
        |some x=>obtain⟨o1,o2,_,_,q3⟩:=hlent1 id x.1 x.2 hl;rw[hid]at q3;cases q3
       have hinj1:Inj (dC L Ω1.e):=fun i j c c' b oo hi hj ho1 ho2=>by obtain⟨i1,r1,c1,p1,p2,p3⟩:=kB h3.slots hLs hi;obtain⟨i2,r2,c2,p4,p5,p6⟩:=kB h3.slots hLs hj;have:=h3.inj i1 i2 c1 c2 b oo p2 p5 (p3 b oo ho1) (p6 b oo ho2);subst this;have a1:=dB hdist p1;have a2:=dB hdist p4;rw[a1]at a2;simp at a2;exact a2.1
       have hpin:∀id c,dC L Ω1.e id=some c->cN id=true:=by
        intro id c hc
        cases hg:aD S1 id with
        |none=>rw[hdom1 id hg]at hc;cases hc
        |some o=>have:=k3 (id,o) (dE _ _ _ hg);simp only[cN,Hk,JH,Jw];simp only at this;omega
       have hkS:∀k∈aq S1,∃c,dC L Ω1.e k=some c:=by
        intro k hk;obtain⟨x,hx,rfl⟩:=I7.1 hk
        cases hg:aD S1 x.1 with
        |none=>exact absurd (I7.2 ⟨x,hx,rfl⟩) (l9 _ _ hg)
        |some o=>
         have hso:=hslots x.1 o hg
         cases o with
         |box c=>obtain⟨_,_,e1,_⟩:=hso;exact⟨_,e1⟩
         |tail τ n=>obtain⟨_,_,e1,_⟩:=hso;exact⟨_,e1⟩
         |bld t u l=>obtain⟨_,_,e1,_⟩:=hso;exact⟨_,e1⟩
         |tailp τ n x=>obtain⟨_,_,e1,_⟩:=hso;exact⟨_,e1⟩
       have hlen1:as1.length<=fn.ntmps:=by have:=hvl.1;rw[this,IQ,h3.size];exact Hu _
       have hi1:=me (n:=fn.ntmps) h3.pubok h3.tabs hvl hlen1 hslots hdom1 hinj1 hpin
       have hi2:=hi1.retmp' (T:=cm (eK 0 as1)) (a':={tmps:=a1.tmps,defers:=[{target:=.fn (.func g) (R.caps.toArray.map a1.eval),args:=#[]}]}) (n:=fn.ntmps) (ds:=[{target:=.fn (.func g) (R.caps.toArray.map a1.eval),args:=#[]}])
        (fun i=>by
         have:=hi1.tmps i;have e0:(a1.tmps.toList.toArray++Array.replicate (fn.ntmps-a1.tmps.toList.toArray.size) undef)=a1.tmps:=by have hz:a1.tmps.size=fn.ntmps:=h3.size;apply I8;simp[hz]
         rw[e0]at this;exact this) h3.size rfl
       have hi3:=hi2.pure (dst:=some R.t5) (val:=.undef) (v:=.func (.func g) #[] (R.caps.toArray.map a1.eval)) (.undef _) (fun d e=>by cases e;exact hk5)
       have hi4:=hi3.weak (s':=St.abs ⟨pw (eK 0 as1) R.t5 .undef,S1⟩) (fun i=>by
        simp only[St.abs,jl,dH];by_cases e5:R.t5=i
        ·left;simp[e5]
        ·right;simp[e5]) rfl
       have hact:(({tmps:=a1.tmps,defers:=[{target:=.fn (.func g) (R.caps.toArray.map a1.eval),args:=#[]}]}:Act).put (some R.t5) (.func (.func g) #[] (R.caps.toArray.map a1.eval)))=
         ({(a1.put (some R.t5) (.func (.func g) #[] (R.caps.toArray.map a1.eval)))with defers:={target:=.fn (.func g) (R.caps.toArray.map a1.eval),args:=#[]}::(a1.put (some R.t5) (.func (.func g) #[] (R.caps.toArray.map a1.eval))).defers}:Act).put none undef:=by
        simp[Act.put,hdef0]
       show Code.wp P R.rest _ (({(a1.put (some R.t5) (.func (.func g) #[] (R.caps.toArray.map a1.eval)))with defers:={target:=.fn (.func g) (R.caps.toArray.map a1.eval),args:=#[]}::(a1.put (some R.t5) (.func (.func g) #[] (R.caps.toArray.map a1.eval))).defers}:Act).put none undef) Ω1.w;rw[<-hact];refine JF (lf hm hT hS _ ann R.rest _ _ _ ⟨dC L Ω1.e,Ω1.w,Ω1.pub⟩ h4 hdr.2 hi4) ?_;intro en a2 w2 hq;obtain⟨z,s2,Ω2,g1,rfl,g3,g4⟩:=hq;have hcv2:VL Ω2 caps (R.caps.map a1.eval):=by refine⟨hvc.1,fun j c v hc hv=>?_⟩;exact V.pinned g3.keep (HE.1 hcp c (HO hc)) (hvc.2 j c v hc hv)
       have hcl':caps.length<=clo.ntmps:=by rw[hvc.1,Is];exact hcl
       have hc6':caps.length<=R.t6:=by rw[hvc.1,Is];exact hc6
       have close:∀(u u':FrameMode)(av:AV)(v:Value),u≠.run->settle u'=.returning->Rcv u av Ω2 v u'->vW C annC clo R caps av s2 (Ds C fn.results.toList L s1 S1 S A s2.t)->
         Leaves P fn a2.tmps (fun en w'=>∃pub' e',match en with
          |.returned v=>(∀b pv u,A.pan=some (b,pv,u)->b=false)/\V ⟨e',w',pub'⟩ A.val v/\After w pub e (aD (putB S A.upd)) w' pub' e'
          |.panicked ch=>∃pv u v,A.pan=some (true,pv,u)/\ch=[{v,recovered:=false}]/\V ⟨e',w',pub'⟩ pv v/\After w pub e (aD (putB S u)) w' pub' e'
          |.outgrown=>False) [{target:=.fn (.func g) (R.caps.toArray.map a1.eval),args:=#[]}] u Ω2.w:=by
        intro u u' av v hu hse hrc hcr;refine leaves_cons (f:=g) (args:=(R.caps.map a1.eval).toArray) hu (by simp[invoke,eg]) ?_;refine(yo hm hT hS hRc hg hcb hk2 hres hcl' hc6' g3 hcv2 hrc hcr).mono ?_;rintro en u2 w3 ⟨rfl,rfl,s3,Ω3,a3,T3,rfl,hfin,h5⟩;simp only[hse,Leaves];obtain⟨v,r1,pub',e',r2,r3,r4⟩:=Ba hT h3 hdist hS1 hkS g3 h5 hpan hfin;exact⟨v,r1,pub',e',r2,r3,r4⟩
       have hds:a2.defers=[{target:=.fn (.func g) (R.caps.toArray.map a1.eval),args:=#[]}]:=g3.defers
       cases z with
       |normal=>cases g1;show Leaves P fn a2.tmps _ a2.defers .returning Ω2.w;rw[hds];exact close .returning .returning .nilif .nilIface (by simp) rfl (.ret Ω2) g4
       |ret=>cases g1;show Leaves P fn a2.tmps _ a2.defers .returning Ω2.w;rw[hds];exact close .returning .returning .nilif .nilIface (by simp) rfl (.ret Ω2) g4
       |exit id=>exact g4.elim
       |pan pv=>obtain⟨v,rfl,hv⟩:=g1;show Leaves P fn a2.tmps _ a2.defers (.panicking [{v,recovered:=false}]) Ω2.w;rw[hds];exact close _ (.panicking [{v,recovered:=true}]) pv v (by simp) (by simp[settle]) (.pan Ω2 pv v hv) g4
      ·exact h4.elim
     ·exact h4.elim
 ·exact h.elim
end
end Go.AL
end
section
namespace Go.Pd
open Go.AL
def gH(b:UInt8):Bool:=!(decide (bI b<32)&&!decide (bI b=10)&&!decide (bI b=9))
def eB(s:Str):Bool:=s.all gH&&(bS s).isNone
def bQ(s:Shape):Bool:=decide (di s=0)&&allS bn s
def bJ(t:Trm)(n v s p:Nat):Bool:=decide (t.names.length=n)&&decide (t.vars.length=v)&&decide (t.shapes.length=s)&&decide (t.parts.length=p)
def jw(t:Trm):Bool:=decide (0<=t.pos)&&(decide (t.n=0)||decide (t.kind=1))&&(decide (t.pkg=[])||decide (t.kind=5))&&t.shapes.all bQ
def eM(l:List Str):Bool:=l.all aW&&decide l.Nodup
def qE(t:Trm):Bool:=
 if t.kind=1 then decide (t.name=[])&&decide (0<=t.n)&&decide (t.n<=999999999999999)&&bJ t 0 0 0 0
 else if t.kind=2 then eB t.name&&bJ t 0 0 0 0
 else if t.kind=3∨t.kind=4 then decide (t.name=[])&&bJ t 0 0 0 0
 else if t.kind=5 then aW t.name&&(decide (t.pkg=[])||aW t.pkg)&&bJ t 0 0 0 0
 else if t.kind=6 then decide (t.name=[])&&decide (t.names.length<=4096)&&eM t.names&&bJ t t.names.length 0 t.names.length 1
 else if t.kind=7 then decide (t.name=[])&&decide (0<t.parts.length)&&bJ t 0 0 0 t.parts.length
 else if t.kind=8 then decide (t.name=[])&&eM t.names&&bJ t t.names.length 0 0 t.names.length
 else if t.kind=9∨t.kind=10 then aW t.name&&bJ t 0 0 0 1
 else if t.kind=11 then decide (t.name=[])&&bJ t 0 0 1 t.parts.length
 else if t.kind=12 then decide (t.name=[])&&bJ t 0 0 1 3
 else if t.kind=13 then decide (t.name=[])&&eM t.names&&t.vars.all aW&&bJ t t.names.length t.names.length (t.names.length+1) (t.names.length+1)
 else if t.kind=14 then aW t.name&&bJ t 0 0 0 2
 else if t.kind=15 then decide (t.name=[])&&bJ t 0 0 1 1
 else if t.kind=16∨t.kind=17 then dM t.name&&bJ t 0 0 0 1
 else false
def aV(t:Trm):Bool:=jw t&&qE t
mutual
def allT(f:Trm->Bool):Trm->Bool
 |⟨k,g,q,z,ns,vs,ss,ps,pp⟩=>f ⟨k,g,q,z,ns,vs,ss,ps,pp⟩&&allTL f ps
def allTL(f:Trm->Bool):List Trm->Bool
 |[]=>true
 |p::r=>allT f p&&allTL f r
end
theorem iV(f:Trm->Bool)(t:Trm):allT f t=(f t&&allTL f t.parts):=by cases t;rw[allT]
theorem fV(f:Trm->Bool):∀l:List Trm,allTL f l=l.all (allT f)
 |[]=>rfl
 |p::r=>by rw[HZ,<-fV f r];rw[allTL]
def cx(t:Trm):Bool:=allT (fun x=>decide (x.names.length<=1000000)) t
theorem Bb{t x:Trm}(h:cx t=true)(hx:x∈t.parts):cx x=true:=by unfold cx at h⊢;rw[iV,Hk,fV]at h;exact HE.1 h.2 x hx
theorem yp{t:Trm}(h:cx t=true):t.names.length<=1000000:=by unfold cx at h;rw[iV,Hk]at h;exact Xo h.1
def bz(t:Trm):Int:=
 if 4096<(countT t 4096).1 then 3 else if 40<(countT t 4096).2 then 91 else if allT aV t=true then 0 else 80
end Go.Pd
namespace Go.Pd
open Go.AL
theorem dnZ(n:Nat):decide ((n:Int)=0)=decide (n=0):=Ie.2 (by omega)
theorem dn1(n:Nat):decide ((n:Int)=1)=decide (n=1):=Ie.2 (by omega)
theorem dn2(n:Nat):decide ((n:Int)=2)=decide (n=2):=Ie.2 (by omega)
theorem dn3(n:Nat):decide ((n:Int)=3)=decide (n=3):=Ie.2 (by omega)
theorem dnN(n m:Nat):decide ((n:Int)=(m:Int))=decide (n=m):=Ie.2 (by omega)
theorem dnS(n m:Nat):decide ((n:Int)=(m:Int)+1)=decide (n=m+1):=Ie.2 (by omega)
theorem dnL(n:Nat):decide ((n:Int)<=4096)=decide (n<=4096):=Ie.2 (by omega)
theorem dnP(n:Nat):decide ((0:Int)<(n:Int))=decide (0<n):=Ie.2 (by omega)
theorem vX(s:Str)(k:Nat)(h:k<s.length):(bh s).getD k (dfl (Ty.int IntKind.u8))=bI (s.getD k 0):=by unfold bh;simp[Hl,h,bI]
theorem Bc(b:UInt8):gH b=false↔(bI b<32/\bI b≠10/\bI b≠9):=by unfold gH;simp only[Bool.not_eq_false',Hk,Hq,HB,HI];omega
end Go.Pd
end
section
namespace Go.Pd
open Go.AL
theorem sB(s:PS):(au s).toks=s.toks:=rfl
theorem fW(e a:Int)(s:PS):(cC e a s).toks=s.toks:=by unfold cC;split<;>rfl
theorem bc(t:Str)(s:PS):(ak t s).toks=s.toks:=by
 unfold ak;split
 ·rfl
 ·exact fW _ _ _
theorem eC(k:Int)(s:PS):(aE k s).2.toks=s.toks:=by
 unfold aE;split
 ·rfl
 ·exact fW _ _ _
theorem iW(ns:List Str)(s:PS):(aJ ns s).2.toks=s.toks:=by
 unfold aJ;simp only;split
 ·rw[fW,eC]
 ·exact eC _ _
def Ad{α:Type}(l:List Tokn)(p:α->Prop)(R:PS->α×PS):Prop:=∀s,s.toks=l->p (R s).1/\(R s).2.toks=l
def oC{σ:Type}(l:List Tokn)(p:σ->Prop)(one:σ->PS->σ×PS):Prop:=∀x s,s.toks=l->p x->p (one x s).1/\(one x s).2.toks=l
theorem qF{σ:Type}{l:List Tokn}{p:σ->Prop}{one:σ->PS->σ×PS}(h:oC l p one)(btw en:Str):∀(k:Nat)(x:σ)(s:PS),s.toks=l->p x->p (aX btw en one k x s).1/\(aX btw en one k x s).2.toks=l
 |0,x,s,hs,hx=>⟨hx,hs⟩
 |k+1,x,s,hs,hx=>by
  simp only[aX];have h1:=h x s hs hx;split
  ·exact⟨hx,hs⟩
  split
  ·exact⟨h1.1,h1.2⟩
  ·exact qF h btw en k _ _ ((bc _ _).trans h1.2) h1.1
theorem eD{σ:Type}{l:List Tokn}{p:σ->Prop}{one:σ->PS->σ×PS}(h:oC l p one)(btw en:Str){x:σ}{s:PS}(hs:s.toks=l)(hx:p x):p (ab btw en one x s).1/\(ab btw en one x s).2.toks=l:=by
 unfold ab;split
 ·exact⟨hx,hs⟩
 ·exact qF h btw en _ x s hs hx
theorem qG{l:List Tokn}{R:PS->Shape×PS}(hR:Ad l (fun _=>True) R):oC l (fun _=>True) (aw R):=fun x s hs _=>⟨trivial,(hR _ ((bc _ _).trans ((iW _ _).trans hs))).2⟩
theorem yq{l:List Tokn}{R:PS->Shape×PS}(hR:Ad l (fun _=>True) R):oC l (fun _=>True) (aA R):=fun x s hs _=>⟨trivial,(hR _ hs).2⟩
theorem qH(l:List Tokn):∀n,Ad l (fun _=>True) (ag n)
 |0=>fun s hs=>⟨trivial,hs⟩
 |n+1=>fun s hs=>by
  have ih:=qH l n;refine⟨trivial,?_⟩;show(gA (ag n) s).2.toks=l;unfold gA;simp only;split
  ·exact hs
  split
  ·rw[eC,bc];exact hs
  split
  ·rw[bc];exact(ih (au s) hs).2
  split
  ·exact(eD (qG ih) _ _ (s:=au s) hs trivial).2
  split
  ·exact(eD (qG ih) _ _ (s:=au s) hs trivial).2
  split
  ·have h:=(eD (yq ih) [44] [41] (x:=(⟨8,[],[],[],[]⟩:Shape)) (s:=au s) hs trivial).2;exact(ih (ak [45,62] _) ((bc _ _).trans h)).2
  ·exact(fW _ _ _).trans hs
theorem qI(s:PS):(bg s).2.toks=s.toks:=by
 have h:=(qH s.toks big s rfl).2;unfold bg;simp only;split
 ·exact h
 split
 ·exact h
 ·rw[fW];exact h
def PF(t:Trm):Prop:=∀x∈t.parts,cx x=true
theorem gD{t:Trm}(h:PF t)(hn:t.names.length<=1000000):cx t=true:=by unfold cx;rw[iV,Hk,fV];exact⟨Xd hn,HE.2 h⟩
theorem kP{t:Trm}(h:t.parts=[]):PF t:=fun x hx=>by rw[h]at hx;cases hx
theorem yr{t u:Trm}(h:PF t)(hu:cx u=true):PF (aM t u):=by
 intro x hx;rcases HX.1 hx with k|k
 ·exact h x k
 ·rw[HM.1 k];exact hu
abbrev vY(l:List Tokn)(R:PS->Trm×PS):Prop:=Ad l (fun t=>cx t=true) R
variable {l:List Tokn} {R:PS->Trm×PS}
theorem sC(hR:vY l R):oC l PF (ax R):=fun x s hs hx=>⟨yr hx (hR s hs).1,(hR s hs).2⟩
theorem kQ(a:Str)(t:Trm)(s:PS):(dF a t s).2.toks=s.toks:=(qI _).trans (bc _ _)
theorem Du:oC l PF aB:=fun x s hs hx=>⟨hx,(kQ _ _ _).trans ((iW _ _).trans hs)⟩
theorem yt(hR:vY l R):oC l PF (aj R):=fun x s hs hx=>by have h:=hR (ak [61] (aJ x.names s).2) ((bc _ _).trans ((iW _ _).trans hs));exact⟨yr hx h.1,h.2⟩
theorem Dv(hR:vY l R):oC l PF (an R):=fun x s hs hx=>by have h:=hR _ ((bc [45,62] _).trans ((bc [41] _).trans ((kQ [58] (bY (aY x (aJ x.names s).1) (aE 1 (ak [40] (aJ x.names s).2)).1.text) _).trans ((eC 1 (ak [40] (aJ x.names s).2)).trans ((bc _ _).trans ((iW _ _).trans hs))))));exact⟨yr hx h.1,h.2⟩
theorem yu(hR:vY l R){s:PS}(hs:s.toks=l):(∀x∈(bP R s).1,cx x=true)/\(bP R s).2.toks=l:=by have h:=hR (ak [40] s) ((bc _ _).trans hs);refine⟨fun x hx=>?_,(bc _ _).trans h.2⟩;rw[HM.1 hx];exact h.1
def FP(l:List Tokn)(p:Trm×PS):Prop:=cx p.1=true/\p.2.toks=l
theorem dZ{c:Prop}[Decidable c]{p q:Trm×PS}(h1:c->FP l p)(h2:¬c->FP l q):FP l (if c then p else q):=by
 split
 ·exact h1 ‹_›
 ·exact h2 ‹_›
theorem Dw(hl:l.length<=4097)(hR:vY l R):vY l (cr R):=by
 intro s hs;have nil:∀t:Trm,t.parts=[]->t.names=[]->cx t=true:=fun t h k=>gD (kP h) (by rw[k];exact Hz _)
 have inn:∀(k j p:Int),cx (⟨k,[],(aE j (au s)).1.text,0,[],[],[],(bP R (aE j (au s)).2).1,p⟩:Trm)=true/\(bP R (aE j (au s)).2).2.toks=l:=fun k j p=>
  have h:=yu hR ((eC j (au s)).trans hs)
  ⟨gD h.1 (Hz _),h.2⟩
 show FP l (cr R s);unfold cr;refine dZ (fun _=>⟨nil _ rfl rfl,hs⟩) (fun _=>?_);refine dZ (fun _=>⟨nil _ rfl rfl,hs⟩) (fun _=>?_);refine dZ (fun _=>⟨nil _ rfl rfl,hs⟩) (fun _=>?_);refine dZ (fun _=>dZ (fun _=>⟨nil _ rfl rfl,(eC _ _).trans hs⟩) (fun _=>⟨nil _ rfl rfl,hs⟩)) (fun _=>?_);refine dZ (fun _=>⟨nil _ rfl rfl,hs⟩) (fun _=>?_);refine dZ (fun _=>⟨nil _ rfl rfl,hs⟩) (fun _=>?_);apply dZ<;>intro _
 ·have hu:=hR (au s) hs;refine dZ (fun _=>⟨gD (fun x hx=>?_) (Hz _),(bc _ _).trans ((qI _).trans hu.2)⟩) (fun _=>⟨hu.1,(bc _ _).trans hu.2⟩);rw[HM.1 hx];exact hu.1
 apply dZ<;>intro _
 ·have h:=eD (yt hR) [44] [125] (x:=(⟨8,[],[],0,[],[],[],[],(ai s).pos⟩:Trm)) (s:=au s) hs (kP rfl);have hn:=dy (one:=aj R) (fun t=>t.names.length) (fun x s=>by show(x.names++[_]).length<=_;rw[Ho];exact Hu _) [44] [125] (⟨8,[],[],0,[],[],[],[],(ai s).pos⟩:Trm) (au s);refine⟨gD h.1 ?_,h.2⟩;rw[sB,hs]at hn;exact I2 hn (by show 0+(l.length+2)<=_;omega)
 refine dZ (fun _=>inn 10 1 _) (fun _=>?_);refine dZ (fun _=>inn 16 2 _) (fun _=>?_);refine dZ (fun _=>inn 17 2 _) (fun _=>?_);exact⟨nil _ rfl rfl,(fW _ _ _).trans hs⟩
theorem qJ(hl:l.length<=4097)(hR:vY l R)(p:Int):∀(k:Nat)(t:Trm)(s:PS),cx t=true->s.toks=l->cx (dJ R p k t s).1=true/\(dJ R p k t s).2.toks=l
 |0,t,s,ht,hs=>⟨ht,hs⟩
 |k+1,t,s,ht,hs=>by
  simp only[dJ];split
  ·exact⟨ht,hs⟩
  split
  ·have h:=eD (sC hR) [44] [41] (x:=(⟨7,[],[],0,[],[],[],[t],p⟩:Trm)) (s:=au s) hs (fun x hx=>by rw[HM.1 hx];exact ht);have hn:=ck (one:=ax R) (fun t=>t.names=[]) (fun x s hx=>hx) [44] [41] (x:=(⟨7,[],[],0,[],[],[],[t],p⟩:Trm)) (au s) rfl;exact qJ hl hR p k _ _ (gD h.1 (by rw[hn];exact Hz _)) h.2
  split
  ·refine qJ hl hR p k _ _ (gD (fun x hx=>?_) (Hz _)) ((eC _ _).trans hs);rw[HM.1 hx];exact ht
  ·exact⟨ht,hs⟩
theorem vZ(hl:l.length<=4097):∀n,vY l (a7 n)
 |0=>fun s hs=>⟨gD (kP rfl) (Hz _),hs⟩
 |n+1=>fun s hs=>by
  have hR:=vZ hl n;have pk:=sC hR;show FP l (gw (a7 n) s);unfold gw;apply dZ<;>intro _
  ·have h:=eD (Du (l:=l)) [44] [41] (x:=(⟨6,[],[],0,[],[],[],[],(ai s).pos⟩:Trm)) (s:=ak [40] (au s)) ((bc _ _).trans hs) (kP rfl);have hn:=dy (one:=aB) (fun t=>t.names.length) (fun x s=>by show(x.names++[_]).length<=_;rw[Ho];exact Hu _) [44] [41] (⟨6,[],[],0,[],[],[],[],(ai s).pos⟩:Trm) (ak [40] (au s));have h2:=pk _ (ak [45,62] (ab [44] [41] aB (⟨6,[],[],0,[],[],[],[],(ai s).pos⟩:Trm) (ak [40] (au s))).2) ((bc _ _).trans h.2) h.1;refine⟨gD h2.1 ?_,h2.2⟩;rw[bc,sB,hs]at hn;exact I2 hn (by show 0+(l.length+2)<=_;omega)
  apply dZ<;>intro _
  ·have h1:=pk (⟨14,[],(aE 1 (au s)).1.text,0,[],[],[],[],(ai s).pos⟩:Trm) (ak [61] (aE 1 (au s)).2) ((bc _ _).trans ((eC _ _).trans hs)) (kP rfl);have h2:=pk _ (ak [105,110] _) ((bc _ _).trans h1.2) h1.1;exact⟨gD h2.1 (Hz _),h2.2⟩
  apply dZ<;>intro _
  ·have h1:=pk (⟨12,[],[],0,[],[],[],[],(ai s).pos⟩:Trm) (au s) hs (kP rfl);have h2:=pk _ (ak [116,104,101,110] _) ((bc _ _).trans h1.2) h1.1;have h3:=pk _ (ak [101,108,115,101] _) ((bc _ _).trans h2.2) h2.1;exact⟨gD h3.1 (Hz _),(kQ _ _ _).trans h3.2⟩
  apply dZ<;>intro _
  ·have h1:=pk (⟨13,[],[],0,[],[],[],[],(ai s).pos⟩:Trm) (au s) hs (kP rfl);have h:=eD (Dv hR) [124] [125] (s:=ak [123] (ak [111,102] (ax (a7 n) (⟨13,[],[],0,[],[],[],[],(ai s).pos⟩:Trm) (au s)).2)) ((bc _ _).trans ((bc _ _).trans h1.2)) h1.1;have hn:=dy (one:=an (a7 n)) (fun t=>t.names.length) (fun x s=>by show(x.names++[_]).length<=_;rw[Ho];exact Hu _) [124] [125] (ax (a7 n) (⟨13,[],[],0,[],[],[],[],(ai s).pos⟩:Trm) (au s)).1 (ak [123] (ak [111,102] (ax (a7 n) (⟨13,[],[],0,[],[],[],[],(ai s).pos⟩:Trm) (au s)).2));refine⟨gD h.1 ?_,(kQ _ _ _).trans h.2⟩;rw[bc,bc,h1.2]at hn;exact I2 hn (by show 0+(l.length+2)<=_;omega)
  apply dZ<;>intro _
  ·have h:=eD pk [44] [93] (x:=(⟨11,[],[],0,[],[],[],[],(ai s).pos⟩:Trm)) (s:=au s) hs (kP rfl);have hn:=ck (one:=ax (a7 n)) (fun t=>t.names=[]) (fun x s hx=>hx) [44] [93] (x:=(⟨11,[],[],0,[],[],[],[],(ai s).pos⟩:Trm)) (au s) rfl;exact⟨gD h.1 (by show List.length (ab [44] [93] (ax (a7 n)) _ (au s)).1.names<=_;rw[hn];exact Hz _),(kQ _ _ _).trans h.2⟩
  have ha:=Dw hl hR s hs;exact qJ hl hR _ _ _ _ ha.1 ha.2
end Go.Pd
namespace Go.Pd
open Go.AL
structure TokG(t:Tokn):Prop where
 kind:¬t.kind=0
 name:t.kind=1->aW t.text=true
 upper:t.kind=2->dM t.text=true
 num:t.kind=3->js t.text
 pos:0<=t.pos
theorem iX{k:Int}{t:Str}{p:Int}(hk:¬k=0)(h1:k=1->aW t=true)(h2:k=2->dM t=true)(h3:k=3->js t)(hp:0<=p):TokG ⟨k,t,p⟩:=⟨hk,h1,h2,h3,hp⟩
theorem w4{t:Str}(h:gL t=true)(hne:t≠[]):js t:=by unfold gL at h;simp only[Hk,Hq]at h;refine gx ?_ h.1.2;unfold da;rw[Xf hne,h.1.1];rfl
theorem oD{s:Str}{c:SC}(h0:0<=c.pos)(h1:c.pos<(s.length:Int))(h:(aK s c).1=true) :
  ∃t,(aK s c).2.out=c.out++[t]/\TokG t/\t.pos=c.pos:=by
 unfold aK at h⊢;by_cases a:cq (bAt s c.pos)=true∨cy (bAt s c.pos)=true
 ·rw[Hj a]at h⊢;unfold rL at h⊢;split at h
  ·rename_i x;rw[Hj x];exact⟨_,rfl,iX (by decide) (fun e=>absurd e (by decide)) (fun e=>absurd e (by decide)) (fun e=>absurd e (by decide)) (h0),rfl⟩
  rename_i x;rw[Hh x];split at h
  ·rename_i y;rw[Hj y];exact⟨_,rfl,iX (by decide) (fun _=>y) (fun e=>absurd e (by decide)) (fun e=>absurd e (by decide)) (h0),rfl⟩
  rename_i y;rw[Hh y];split at h
  ·rename_i z;rw[Hj z];exact⟨_,rfl,iX (by decide) (fun e=>absurd e (by decide)) (fun _=>z) (fun e=>absurd e (by decide)) (h0),rfl⟩
  ·cases h
 rw[Hh a]at h⊢;by_cases b:de (bAt s c.pos)=true
 ·rw[Hj b]at h⊢;have hw:=cE (pr:=bO) h0 h1 (by rw[eA h1]at b;unfold bO;rw[b,Jt];rfl);have hl:=cG (pr:=bO) h0 (JX h1);have hcl:=pc (s:=s) h0 (b:=c.pos+(ao bO s c.pos:Int)) (by omega) hl;unfold vG at h⊢;split at h
  ·rename_i x;rw[Hj x];exact⟨_,rfl,iX (by decide) (fun e=>absurd e (by decide)) (fun e=>absurd e (by decide)) (fun _=>w4 x (fun e=>by rw[e]at hcl;simp at hcl;omega)) (h0),rfl⟩
  rename_i x;rw[Hh x];split at h
  ·rename_i y;rw[Hj y];exact⟨_,rfl,iX (by decide) (fun e=>absurd e (by decide)) (fun e=>absurd e (by decide)) (fun e=>absurd e (by decide)) (h0),rfl⟩
  ·cases h
 rw[Hh b]at h⊢;by_cases d:bAt s c.pos=34
 ·rw[Hj d]at h⊢;obtain⟨q1,_,_⟩:=dX s c.pos (s.length+2) [] (bH c (c.pos+1)) (by show 0<=c.pos+1;omega) (by show c.pos+1<=_;omega);have q1':(bL s c).2.2.out=c.out:=q1;unfold vH at h⊢;split at h
  ·rename_i x;rw[Hj x];refine⟨⟨4,(bL s c).1,c.pos⟩,?_,iX (by decide) (fun e=>absurd e (by decide)) (fun e=>absurd e (by decide)) (fun e=>absurd e (by decide)) (h0),rfl⟩;show(bL s c).2.2.out++[_]=_;rw[q1']
  ·cases h
 rw[Hh d]at h⊢;unfold oK at h⊢;split at h
 ·rename_i x;rw[Hj x];exact⟨_,rfl,iX (by decide) (fun e=>absurd e (by decide)) (fun e=>absurd e (by decide)) (fun e=>absurd e (by decide)) (h0),rfl⟩
 rename_i x;rw[Hh x];split at h
 ·rename_i y;rw[Hj y];exact⟨_,rfl,iX (by decide) (fun e=>absurd e (by decide)) (fun e=>absurd e (by decide)) (fun e=>absurd e (by decide)) (h0),rfl⟩
 ·cases h
theorem kR(s:Str)(fr:Int):∀(n:Nat)(acc:Str)(c:SC),0<=c.pos->c.pos<=(s.length:Int)->(s.length:Int)<c.pos+(n:Int)->(bZ s fr n acc c).2.1=false->¬(bZ s fr n acc c).2.2.err=0
 |0,acc,c,h0,h1,h2,_=>by omega
 |n+1,acc,c,h0,h1,h2,h=>by
  rw[bZ]at h⊢;by_cases a:bAt s c.pos<32
  ·rw[Hj a];show ¬(60:Int)=0
   decide
  rw[Hh a]at h⊢;by_cases b:bAt s c.pos=34
  ·rw[Hj b]at h;cases h
  rw[Hh b]at h⊢;by_cases d:bAt s c.pos=92
  ·rw[Hj d]at h⊢
   cases he:iS (bAt s (c.pos+1))with
   |none=>
    show ¬(60:Int)=0
    decide
   |some x=>rw[he]at h;have hp:=ly he;exact kR s fr n _ _ (by show 0<=c.pos+2;omega) (by show c.pos+2<=_;omega) (by show _<c.pos+2+(n:Int);omega) h
  rw[Hh d]at h⊢;obtain⟨p1,p2⟩:=sw a b d;have p2:=p2 h0;have hw:=cG (pr:=aZ) h0 h1
  cases hb:bS (cut s c.pos (c.pos+(ao aZ s c.pos:Int)))with
  |some k=>
   show ¬(30:Int)=0
   decide
  |none=>rw[hb]at h;exact kR s fr n _ _ (by show 0<=c.pos+_;omega) hw (by show _<c.pos+_+(n:Int);omega) h
theorem jY{s:Str}{c:SC}(h0:0<=c.pos)(h1:c.pos<(s.length:Int))(h:(aK s c).1=false):¬(aK s c).2.err=0:=by
 have d60:¬(60:Int)=0:=by decide
 unfold aK at h⊢;by_cases a:cq (bAt s c.pos)=true∨cy (bAt s c.pos)=true
 ·rw[Hj a]at h⊢;unfold rL at h⊢;split at h
  ·cases h
  rename_i x;rw[Hh x];split at h
  ·cases h
  rename_i y;rw[Hh y];split at h
  ·cases h
  ·rename_i z;rw[Hh z];exact d60
 rw[Hh a]at h⊢;by_cases b:de (bAt s c.pos)=true
 ·rw[Hj b]at h⊢;unfold vG at h⊢;split at h
  ·cases h
  rename_i x;rw[Hh x];split at h
  ·cases h
  ·rename_i y;rw[Hh y];exact d60
 rw[Hh b]at h⊢;by_cases d:bAt s c.pos=34
 ·rw[Hj d]at h⊢;unfold vH at h⊢;split at h
  ·cases h
  ·rename_i x;rw[Hh x];exact kR s c.pos (s.length+2) [] (bH c (c.pos+1)) (by show 0<=c.pos+1;omega) (by show c.pos+1<=_;omega) (by show _<c.pos+1+((s.length+2:Nat):Int);omega) (Ik.2 x)
 rw[Hh d]at h⊢;unfold oK at h⊢;split at h
 ·cases h
 rename_i x;rw[Hh x];split at h
 ·cases h
 ·rename_i y;rw[Hh y];exact d60
theorem jZ(s:Str):∀(n:Nat)(c:SC),0<=c.pos->c.pos<=(s.length:Int)->(s.length:Int)<c.pos+(n:Int)->(∀t∈c.out,TokG t)->(cM s n c).2.err=0->
  ∃out,(cM s n c).1=out++[⟨0,[],(s.length:Int)⟩]/\∀t∈out,TokG t
 |0,c,h0,h1,h2,_,_=>by omega
 |n+1,c,h0,h1,h2,ho,h=>by
  rw[cM]at h⊢;by_cases a:c.pos=(s.length:Int)
  ·rw[Hj a];exact⟨c.out,rfl,ho⟩
  rw[Hh a]at h⊢;have hlt:c.pos<(s.length:Int):=by omega
  by_cases b:iB (bAt s c.pos)=true
  ·rw[Hj b]at h⊢;exact jZ s n _ (by show 0<=c.pos+1;omega) (by show c.pos+1<=_;omega) (by show _<c.pos+1+(n:Int);omega) ho h
  rw[Hh b]at h⊢;by_cases d:bAt s c.pos=45/\bAt s (c.pos+1)=45
  ·rw[Hj d]at h⊢;have hw:=cG (pr:=ca) h0 h1;have hh:=cE (pr:=ca) h0 hlt (by rw[<-eA hlt,d.1];rfl)
   cases hb:bS (cut s c.pos (c.pos+(ao ca s c.pos:Int)))with|some k=>rw[hb]at h;exact absurd (show(30:Int)=0 from h) (by decide)|none=>rw[hb]at h;exact jZ s n _ (by show 0<=c.pos+_;omega) hw (by show _<c.pos+_+(n:Int);omega) ho h
  rw[Hh d]at h⊢;by_cases e:(aK s c).1=true
  ·rw[Hj e]at h⊢;obtain⟨t1,t2,t3⟩:=eJ h0 hlt e;obtain⟨t,g1,g2,_⟩:=oD h0 hlt e;refine jZ s n _ (by omega) t2 (by omega) ?_ h;rw[g1];intro x hx;rcases HX.1 hx with k|k
   ·exact ho x k
   ·rw[HM.1 k];exact g2
  ·rw[Hh e]at h
   exact absurd h (by
    have:(aK s c).1=false:=by simpa using e
    exact jY h0 hlt this)
end Go.Pd
namespace Go.Pd
open Go.AL
theorem k0{s:Str}(h:(aU s).2.err=0):s.length<=4096/\∃out,(aU s).1=out++[⟨0,[],(s.length:Int)⟩]/\∀t∈out,TokG t:=by
 unfold aU at h⊢;split at h
 ·exact absurd h (by decide)
 ·rename_i x;rw[Hh x];exact⟨by omega,jZ s (s.length+2) ⟨0,[],0,0⟩ (by show(0:Int)<=0;omega) (by show(0:Int)<=_;omega) (by show _<(0:Int)+((s.length+2:Nat):Int);omega) (fun t ht=>by cases ht) h⟩
theorem iE{s:Str}(h:(aU s).2.err=0):ml (aU s).1:=by
 obtain⟨_,out,e,g⟩:=k0 h;rw[e];intro t ht hk;rcases HX.1 ht with k|k
 ·exact(g t k).num hk
 ·rw[HM.1 k]at hk;exact absurd (show(0:Int)=3 from hk) (by decide)
theorem qK{s:Str}(h:(aU s).2.err=0):0<(aU s).1.length/\(cK (aU s).1 ((aU s).1.length-1:Int)).kind=0:=by
 obtain⟨_,out,e,g⟩:=k0 h;rw[e];have hl:(out++[(⟨0,[],(s.length:Int)⟩:Tokn)]).length=out.length+1:=by rw[Ho];rfl
 refine⟨by omega,?_⟩;unfold cK;rw[Hj (by omega)];have hk:(((out++[(⟨0,[],(s.length:Int)⟩:Tokn)]).length:Int)-1).toNat=out.length:=by omega
 rw[hk,Hl,Ht (Hu _)];simp
def sD(l:List Tokn)(a:Int)(p:Trm×Par):Trm×Int×Flt:=
 iJ lR (if aQ p.2=true then p else if bz p.1=3∨bz p.1=91 then(p.1,cC (bz p.1) (ai (b9 l a)).pos p.2)else p)
def b5(l:List Tokn)(a:Int):Trm×Int×Flt:=if aQ (b9 l a)=true then(lR,0,⟨(b9 l a).err,(b9 l a).fat⟩)else sD l a (a7 5000 (b9 l a))
def nh{α:Type}(z:α)(f:List Tokn->α×Int×Flt)(s:Str):α×Flt:=
 if(aU s).2.err=0 then
  if(f (aU s).1).2.2.err=0 then
   if(cR (aU s).1 (f (aU s).1).2.1).err=0 then((f (aU s).1).1,cR (aU s).1 (f (aU s).1).2.1)else(z,cR (aU s).1 (f (aU s).1).2.1)
  else(z,(f (aU s).1).2.2)
 else(z,(aU s).2)
def nQ(s:Str):Shape×Flt:=nh Ab (fun l=>gG l 0) s
def dp(s:Str):Trm×Flt:=nh lR (fun l=>b5 l 0) s
theorem Ae{α:Type}{z:α}{p:α×Par}{l:List Tokn}(h:(iJ z p).2.2.err=0)(hc:p.2.err=0->0<=p.2.pos/\p.2.pos<(l.length:Int)):0<=(iJ z p).2.1/\(iJ z p).2.1<(l.length:Int):=by
 unfold iJ at h⊢;split
 ·rename_i b;rw[Hj b]at h;exact absurd h (b7.1 b)
 ·rename_i b;exact hc (bf.1 (by simpa using b))
theorem lB{l:List Tokn}(h:aQ (b9 l 0)=false):(b9 l 0).toks=l/\(b9 l 0).pos=0:=by
 unfold b9;split
 ·exact⟨rfl,rfl⟩
 split<;>exact⟨rfl,rfl⟩
theorem Bd{l:List Tokn}(hN:ml l)(hl:0<l.length)(hk:(cK l ((l.length:Int)-1)).kind=0)(h:(gG l 0).2.2.err=0):0<=(gG l 0).2.1/\(gG l 0).2.1<(l.length:Int):=by
 unfold gG at h⊢;split
 ·rename_i b;rw[Hj b]at h;exact absurd h (b7.1 b)
 rename_i b;rw[Hh b]at h;have b':aQ (b9 l 0)=false:=by simpa using b
 have g:=fU hN b';obtain⟨e1,e2⟩:=lB b';have m:=(kL g).1;refine Ae h (fun _=>?_);have hcap:=m.cap ((l.length:Int)-1) (by rw[e1];exact hk) (by rw[e2];omega);exact⟨m.good.1,by omega⟩
theorem yw{l:List Tokn}(hN:ml l)(hl:0<l.length)(hk:(cK l ((l.length:Int)-1)).kind=0)(h:(b5 l 0).2.2.err=0):0<=(b5 l 0).2.1/\(b5 l 0).2.1<(l.length:Int):=by
 unfold b5 at h⊢;split
 ·rename_i b;rw[Hj b]at h;exact absurd h (b7.1 b)
 rename_i b;rw[Hh b]at h;have b':aQ (b9 l 0)=false:=by simpa using b
 have g:=fU hN b';obtain⟨e1,e2⟩:=lB b';have m:=(cD 5000 _ g (by have:=j8 g;omega)).1;have hcap:=m.cap ((l.length:Int)-1) (by rw[e1];exact hk) (by rw[e2];omega);refine Ae h (fun _=>?_);have hp:∀e a,(cC e a (a7 5000 (b9 l 0)).2).pos=(a7 5000 (b9 l 0)).2.pos:=fun e a=>by unfold cC;split<;>rfl
 split
 ·exact⟨m.good.1,by omega⟩
 split
 ·show 0<=(cC _ _ _).pos/\(cC _ _ _).pos<_;rw[hp];exact⟨m.good.1,by omega⟩
 ·exact⟨m.good.1,by omega⟩
end Go.Pd
end
section
open Go Go.AL Go.Pd
namespace Go.AL.Seat
theorem Dx(c:Int)  :
  if decide ((97:Int)<=c)=true then True/\decide (c<=(122:Int))=cq c/\True else True/\false=cq c/\True:=by
 unfold cq;simp only[kI];split<;>simp[*]
theorem Dy(c:Int)  :
  if decide ((65:Int)<=c)=true then True/\decide (c<=(90:Int))=cy c/\True else True/\false=cy c/\True:=by
 unfold cy;simp only[kI];split<;>simp[*]
theorem Dz(c:Int)  :
  if decide ((48:Int)<=c)=true then True/\decide (c<=(57:Int))=de c/\True else True/\false=de c/\True:=by
 unfold de;simp only[kI];split<;>simp[*]
theorem Ff(c:Int)  :
  let A:=True/\true=bK c/\True;if cq c=true then A else if cy c=true then A else if de c=true then A else True/\decide (c=(95:Int))=bK c/\True:=by
 conv=>zeta
 unfold bK;cases cq c<;>cases cy c<;>cases de c<;>simp
theorem Be(s:Str)(hs:Wf .str s) :
  let A:=True/\false=dD cq s/\True;let B:=(↑(List.length s):Int);let C:=(0:Int);let D:=s=s/\false=false/\B=B/\True;if decide (s=[])=true then A else if decide ((24:Int)<B)=true then A else(C<=C/\C<B)/\if(!cq (↑(UInt8.toNat (List.getD s (Int.toNat C) (0:UInt8))):Int))=true then A else(∃(x:Nat),(x<=List.length s/\dD cq s=List.all (List.drop x s) fun(c:UInt8)=>bK (bI c))/\C=(↑x:Int)/\D)/\∀(x:Nat),let E:=(↑x:Int);(x<=List.length s/\dD cq s=List.all (List.drop x s) fun(c:UInt8)=>bK (bI c))->if decide (E<B)=true then(C<=E/\E<B)/\if(!bK (↑(UInt8.toNat (List.getD s (Int.toNat E) (0:UInt8))):Int))=true then A else inR IntKind.i64 (E+(1:Int))/\∃(y:Nat),(y<=List.length s/\dD cq s=List.all (List.drop y s) fun(c:UInt8)=>bK (bI c))/\List.length s-y<List.length s-x/\E+(1:Int)=(↑y:Int)/\D else True/\true=dD cq s/\True:=by
 conv=>zeta
 have hlen:=hs.str;have eb:∀b:UInt8,(b.toNat:Int)=bI b:=fun _=>rfl;simp only[kI,HC,Int.toNat_zero,Ii,Ij,eb,dD];generalize cq (bI (s.getD 0 0))=f0;by_cases h0:s=[]
 ·simp[h0]
 have hpos:0<s.length:=Ip.2 h0;by_cases h1:s.length<=24
 ·rw[Hh h0,Hh (by omega)];refine⟨by omega,?_⟩
  cases f0 with
  |false=>simp
  |true=>
   simp only[JU,I1,HW,h0,h1,IX,decide_true,IV,HR];refine⟨⟨0,⟨by omega,rfl⟩,rfl⟩,?_⟩;rintro k ⟨h3,h4⟩;split
   ·have hk:k<s.length:=by omega
    rw[aT s k 0 hk,HZ]at h4;generalize bK (bI (s.getD k 0))=r at h4⊢;refine⟨by omega,?_⟩
    cases r with|false=>simpa using h4.symm|true=>simp only[JU,I1,HW];exact⟨cA hk hlen,k+1,⟨by omega,by simpa using h4⟩,by omega,by omega⟩
   ·have hk:k=s.length:=by omega
    subst hk;simpa using h4.symm
 ·rw[Hh h0,Hj (by omega)];simp[h1]
theorem Bf(s:Str)(hs:Wf .str s) :
  let A:=True/\false=dD cy s/\True;let B:=(↑(List.length s):Int);let C:=(0:Int);let D:=s=s/\false=false/\B=B/\True;if decide (s=[])=true then A else if decide ((24:Int)<B)=true then A else(C<=C/\C<B)/\if(!cy (↑(UInt8.toNat (List.getD s (Int.toNat C) (0:UInt8))):Int))=true then A else(∃(x:Nat),(x<=List.length s/\dD cy s=List.all (List.drop x s) fun(c:UInt8)=>bK (bI c))/\C=(↑x:Int)/\D)/\∀(x:Nat),let E:=(↑x:Int);(x<=List.length s/\dD cy s=List.all (List.drop x s) fun(c:UInt8)=>bK (bI c))->if decide (E<B)=true then(C<=E/\E<B)/\if(!bK (↑(UInt8.toNat (List.getD s (Int.toNat E) (0:UInt8))):Int))=true then A else inR IntKind.i64 (E+(1:Int))/\∃(y:Nat),(y<=List.length s/\dD cy s=List.all (List.drop y s) fun(c:UInt8)=>bK (bI c))/\List.length s-y<List.length s-x/\E+(1:Int)=(↑y:Int)/\D else True/\true=dD cy s/\True:=by
 conv=>zeta
 have hlen:=hs.str;have eb:∀b:UInt8,(b.toNat:Int)=bI b:=fun _=>rfl;simp only[kI,HC,Int.toNat_zero,Ii,Ij,eb,dD];generalize cy (bI (s.getD 0 0))=f0;by_cases h0:s=[]
 ·simp[h0]
 have hpos:0<s.length:=Ip.2 h0;by_cases h1:s.length<=24
 ·rw[Hh h0,Hh (by omega)];refine⟨by omega,?_⟩
  cases f0 with
  |false=>simp
  |true=>
   simp only[JU,I1,HW,h0,h1,IX,decide_true,IV,HR];refine⟨⟨0,⟨by omega,rfl⟩,rfl⟩,?_⟩;rintro k ⟨h3,h4⟩;split
   ·have hk:k<s.length:=by omega
    rw[aT s k 0 hk,HZ]at h4;generalize bK (bI (s.getD k 0))=r at h4⊢;refine⟨by omega,?_⟩
    cases r with|false=>simpa using h4.symm|true=>simp only[JU,I1,HW];exact⟨cA hk hlen,k+1,⟨by omega,by simpa using h4⟩,by omega,by omega⟩
   ·have hk:k=s.length:=by omega
    subst hk;simpa using h4.symm
 ·rw[Hh h0,Hj (by omega)];simp[h1]
theorem Fg(s:Str)  :
  let A:=101;let B:=True/\true=qg s/\True;if decide (s=([109,111,100,117,108,A]:Str))=true then B else if decide (s=([105,109,112,111,114,116]:Str))=true then B else if decide (s=([112,105,110]:Str))=true then B else if decide (s=([114,97,110,103,A]:Str))=true then B else if decide (s=([116,121,112,A]:Str))=true then B else if decide (s=([111,112,97,113,117,A]:Str))=true then B else if decide (s=([108,A,116]:Str))=true then B else if decide (s=([105,110]:Str))=true then B else if decide (s=([A,120,112,111,114,116]:Str))=true then B else if decide (s=([102,117,110]:Str))=true then B else if decide (s=([105,102]:Str))=true then B else if decide (s=([116,104,A,110]:Str))=true then B else if decide (s=([A,108,115,A]:Str))=true then B else if decide (s=([99,97,115,A]:Str))=true then B else if decide (s=([111,102]:Str))=true then B else if decide (s=([97,115]:Str))=true then B else if decide (s=([110,A,119]:Str))=true then B else if decide (s=([114,97,119]:Str))=true then B else if decide (s=([116,114,117,A]:Str))=true then B else if decide (s=([102,97,108,115,A]:Str))=true then B else True/\false=qg s/\True:=by
 conv=>zeta
 refine a6 (fun h=>?_) (fun h0=>?_)
 ·rw[Xo h];exact Xr
 refine a6 (fun h=>?_) (fun h1=>?_)
 ·rw[Xo h];exact Xr
 refine a6 (fun h=>?_) (fun h2=>?_)
 ·rw[Xo h];exact Xr
 refine a6 (fun h=>?_) (fun h3=>?_)
 ·rw[Xo h];exact Xr
 refine a6 (fun h=>?_) (fun h4=>?_)
 ·rw[Xo h];exact Xr
 refine a6 (fun h=>?_) (fun h5=>?_)
 ·rw[Xo h];exact Xr
 refine a6 (fun h=>?_) (fun h6=>?_)
 ·rw[Xo h];exact Xr
 refine a6 (fun h=>?_) (fun h7=>?_)
 ·rw[Xo h];exact Xr
 refine a6 (fun h=>?_) (fun h8=>?_)
 ·rw[Xo h];exact Xr
 refine a6 (fun h=>?_) (fun h9=>?_)
 ·rw[Xo h];exact Xr
 refine a6 (fun h=>?_) (fun h10=>?_)
 ·rw[Xo h];exact Xr
 refine a6 (fun h=>?_) (fun h11=>?_)
 ·rw[Xo h];exact Xr
 refine a6 (fun h=>?_) (fun h12=>?_)
 ·rw[Xo h];exact Xr
 refine a6 (fun h=>?_) (fun h13=>?_)
 ·rw[Xo h];exact Xr
 refine a6 (fun h=>?_) (fun h14=>?_)
 ·rw[Xo h];exact Xr
 refine a6 (fun h=>?_) (fun h15=>?_)
 ·rw[Xo h];exact Xr
 refine a6 (fun h=>?_) (fun h16=>?_)
 ·rw[Xo h];exact Xr
 refine a6 (fun h=>?_) (fun h17=>?_)
 ·rw[Xo h];exact Xr
 refine a6 (fun h=>?_) (fun h18=>?_)
 ·rw[Xo h];exact Xr
 refine a6 (fun h=>?_) (fun h19=>?_)
 ·rw[Xo h];exact Xr
 refine⟨trivial,?_,trivial⟩;symm;refine Xf fun hm=>?_;unfold G4 at hm;rcases Hy.1 hm with e|hm
 ·exact h0 (Xd e)
 rcases Hy.1 hm with e|hm
 ·exact h1 (Xd e)
 rcases Hy.1 hm with e|hm
 ·exact h2 (Xd e)
 rcases Hy.1 hm with e|hm
 ·exact h3 (Xd e)
 rcases Hy.1 hm with e|hm
 ·exact h4 (Xd e)
 rcases Hy.1 hm with e|hm
 ·exact h5 (Xd e)
 rcases Hy.1 hm with e|hm
 ·exact h6 (Xd e)
 rcases Hy.1 hm with e|hm
 ·exact h7 (Xd e)
 rcases Hy.1 hm with e|hm
 ·exact h8 (Xd e)
 rcases Hy.1 hm with e|hm
 ·exact h9 (Xd e)
 rcases Hy.1 hm with e|hm
 ·exact h10 (Xd e)
 rcases Hy.1 hm with e|hm
 ·exact h11 (Xd e)
 rcases Hy.1 hm with e|hm
 ·exact h12 (Xd e)
 rcases Hy.1 hm with e|hm
 ·exact h13 (Xd e)
 rcases Hy.1 hm with e|hm
 ·exact h14 (Xd e)
 rcases Hy.1 hm with e|hm
 ·exact h15 (Xd e)
 rcases Hy.1 hm with e|hm
 ·exact h16 (Xd e)
 rcases Hy.1 hm with e|hm
 ·exact h17 (Xd e)
 rcases Hy.1 hm with e|hm
 ·exact h18 (Xd e)
 rcases Hy.1 hm with e|hm
 ·exact h19 (Xd e)
 exact absurd hm Jc
theorem Fh(s:Str)  :
  if dD cq s=true then True/\(!qg s)=aW s/\True else True/\false=aW s/\True:=by
 unfold aW;cases dD cq s<;>simp
theorem DA(s:Str)  :
  True/\dD cy s=dM s/\True:=by
 simp[dM]
theorem Bg(a:List Str)(v:Str)(ha:Wf (.lst .str) a) :
  let A:=(0:Int);let B:=(↑(List.length a):Int);let C:=a=a/\v=v/\B=B/\True;(∃(x:Nat),(x<=List.length a/\fB a v A=fB (List.drop x a) v (↑x:Int))/\A=(↑x:Int)/\C)/\∀(x:Nat),let D:=(↑x:Int);x<=List.length a/\fB a v A=fB (List.drop x a) v D->if decide (D<B)=true then(A<=D/\D<B)/\if decide (v=List.getD a (Int.toNat D) (dfl Ty.str))=true then True/\D=fB a v A/\True else inR IntKind.i64 (D+(1:Int))/\∃(y:Nat),(y<=List.length a/\fB a v A=fB (List.drop y a) v (↑y:Int))/\List.length a-y<List.length a-x/\D+(1:Int)=(↑y:Int)/\C else True/\(-1:Int)=fB a v A/\True:=by
 conv=>zeta
 have la:=ha.len;simp only[HC,Jx,Ii,Ij];refine⟨⟨0,⟨by omega,by simp⟩,by simp⟩,?_⟩;rintro k ⟨h1,h3⟩;apply a6<;>intro h
 ·replace h:=Xo h;have hk:k<a.length:=by omega
  rw[aT a k (dfl .str) hk]at h3;refine⟨by omega,?_⟩;by_cases e:a.getD k (dfl .str)=v
  ·rw[Hj (by simpa using e.symm),h3,fB,Hj e]
  ·rw[Hh (by simpa using fun h=>e h.symm)];exact⟨cA hk la,k+1,⟨by omega,by rw[h3,fB,Hh e];rfl⟩,by omega,by omega⟩
 ·replace h:¬((k:Int)<(a.length:Int)):=fun e=>h (Xd e);have e:k=a.length:=by omega
  subst e;rw[h3];simp[fB]
theorem u7(a:List Str)(v:Str)  :
  True/\decide ((0:Int)<=fB a v (0:Int))=decide (v∈a)/\True:=by
 simp only[Jx,Ii,Ij];rw[Bool.eq_iff_iff];simp[sk a v 0 (by omega)]
theorem DB(s:Str)  :
  let A:=True/\true=mi s/\True;if decide (s=([73,110,116]:Str))=true then A else if decide (s=([66,111,111,108]:Str))=true then A else if decide (s=([84,101,120,116]:Str))=true then A else True/\decide (s=([65,110,121]:Str))=mi s/\True:=by
 conv=>zeta
 simp only[Jx,Ii,Ij,mi];by_cases a:s=[73,110,116]<;>by_cases b:s=[66,111,111,108]<;>by_cases c:s=[84,101,120,116]<;>by_cases d:s=[65,110,121]<;>simp[a,b,c,d]
theorem Bh(a:List Str)  :
  True/\a=a/\True:=by
 trivial
theorem DC(s:Shape)(hs:Wf (.st .shape) s)(ho:s.parts.length *16<=140737488355328) :
  let A:=(↑(List.length s.names):Int);let B:=True/\false=eH s/\True;let C:=List.length s.names=List.length s.parts;let D:=s=s/\false=false/\s.names=s.names/\A=A/\s=s/\True;let E:=(List.mergeSort s.names fun(x y:Str)=>decide (x<=y));if(!decide (A=(↑(List.length s.parts):Int)))=true then B else(∃(x:Nat),(x<=List.length s.names/\C/\eH s=(List.all (List.drop x s.names) aW&&decide (List.Nodup s.names)))/\(0:Int)=(↑x:Int)/\D)/\∀(x:Nat),let F:=(↑x:Int);x<=List.length s.names/\C/\eH s=(List.all (List.drop x s.names) aW&&decide (List.Nodup s.names))->if decide (F<A)=true then((0:Int)<=F/\F<A)/\if(!aW (List.getD s.names (Int.toNat F) (dfl Ty.str)))=true then B else inR IntKind.i64 (F+(1:Int))/\∃(y:Nat),(y<=List.length s.names/\C/\eH s=(List.all (List.drop y s.names) aW&&decide (List.Nodup s.names)))/\List.length s.names-y<List.length s.names-x/\F+(1:Int)=(↑y:Int)/\D else List.length s.names*(16:Nat)<=(140737488355328:Nat)/\List.length E=List.length E/\True/\decide ((↑(List.length (Lib.compact E)):Int)=A)=eH s/\True:=by
 conv=>zeta
 have ln:=hs.names.len;simp only[HC,Jx,Ii,Ij];apply a6<;>intro h
 ·have:s.names.length≠s.parts.length:=by simp at h;omega
  simp[eH,this]
 have hl:s.names.length=s.parts.length:=by simp at h;omega
 refine⟨⟨0,⟨by omega,hl,by simp[eH,hl]⟩,rfl⟩,?_⟩;rintro k ⟨h1,_,h3⟩;apply a6<;>intro h
 ·replace h:=Xo h;have hk:k<s.names.length:=by omega
  rw[aT s.names k (dfl .str) hk]at h3;refine⟨by omega,?_⟩;simp only[HZ]at h3;cases e:aW (s.names.getD k (dfl .str))
  ·rw[e]at h3;rw[h3];simp
  ·simp only[e,HR]at h3;exact⟨cA hk ln,k+1,⟨by omega,hl,h3⟩,by omega,by omega⟩
 ·replace h:¬((k:Int)<(s.names.length:Int)):=fun e=>h (Xd e);have e:k=s.names.length:=by omega
  subst e;have hc:=kK s.names;unfold ix at hc;refine⟨by omega,?_⟩;rw[h3,HG];simp only[JW,HR];rw[Ie,<-hc];omega
theorem Fi(s:Shape)(hs:Wf (.st .shape) s)(ho:s.parts.length *16<=140737488355328) :
  let A:=(0:Int);let B:=True;let C:=(↑(List.length s.parts):Int);let D:=B/\false=dm s/\B;let E:=if decide ((↑(List.length s.names):Int)=A)=true then B/\decide (C=A)=dm s/\B else D;let F:=if decide (s.name=[])=true then E else D;let G:=if decide (s.name=[])=true then List.length s.parts*(16:Nat)<=(140737488355328:Nat)/\B/\eH s=dm s/\B else D;let H:=if aW s.pkg=true then E else D;let I:=if decide (s.kind=(9:Int))=true then if dM s.name=true then if decide (s.pkg=[])=true then if(!mi s.name)=true then E else H else H else D else if decide (s.kind=(10:Int))=true then if dM s.name=true then H else D else D;if decide (s.pkg=[])=true then if decide (s.kind=(1:Int))=true then F else if decide (s.kind=(2:Int))=true then F else if decide (s.kind=(3:Int))=true then F else if decide (s.kind=(4:Int))=true then F else if decide (s.kind=(5:Int))=true then if decide (s.name=[])=true then if decide ((↑(List.length s.names):Int)=A)=true then B/\decide (C=(1:Int))=dm s/\B else D else D else if decide (s.kind=(6:Int))=true then G else if decide (s.kind=(7:Int))=true then G else if decide (s.kind=(8:Int))=true then if decide (s.name=[])=true then if decide ((↑(List.length s.names):Int)=A)=true then B/\decide (A<C)=dm s/\B else D else D else I else if decide (s.kind=(1:Int))=true then D else if decide (s.kind=(2:Int))=true then D else if decide (s.kind=(3:Int))=true then D else if decide (s.kind=(4:Int))=true then D else if decide (s.kind=(5:Int))=true then D else if decide (s.kind=(6:Int))=true then D else if decide (s.kind=(7:Int))=true then D else if decide (s.kind=(8:Int))=true then D else I:=by
 conv=>zeta
 have n0:((s.names.length:Int)=0)↔s.names=[]:=by rw[<-IU];omega
 have p0:((s.parts.length:Int)=0)↔s.parts=[]:=by rw[<-IU];omega
 have p1:((s.parts.length:Int)=1)↔s.parts.length=1:=by omega
 have p2:(0<(s.parts.length:Int))↔¬s.parts=[]:=by rw[<-IU];omega
 simp only[n0,p0,p1,p2,Hq,Ii,Ij,ho];have hf:dm s=dm s:=rfl;conv at hf=>rhs;unfold dm
 revert hf;generalize dm s=F;generalize eH s=A;generalize dM s.name=B;generalize aW s.pkg=C;generalize mi s.name=D;generalize s.kind=K;intro hf
 repeat' (apply a6<;>intro _)
 all_goals (subst hf;simp_all)
theorem yx(n:Nat)(s:Shape)(hs:Wf (.st .shape) s)(hn:sz s<=n+1)(hb:n<=1000000) :
  let A:=True/\false=allS dm s/\True;let B:=(↑(List.length s.parts):Int);let C:=s=s/\false=false/\s.parts=s.parts/\B=B/\s=s/\True;let D:=dfl (Ty.st SN.shape);List.length s.parts*(16:Nat)<=(140737488355328:Nat)/\if(!dm s)=true then A else(∃(x:Nat),(x<=List.length s.parts/\allS dm s=allL dm (List.drop x s.parts))/\(0:Int)=(↑x:Int)/\C)/\∀(x:Nat),let E:=(↑x:Int);let F:=List.getD s.parts (Int.toNat E) D;x<=List.length s.parts/\allS dm s=allL dm (List.drop x s.parts)->if decide (E<B)=true then((0:Int)<=E/\E<B)/\sz F<=n/\if(!allS dm F)=true then A else inR IntKind.i64 (E+(1:Int))/\∃(y:Nat),(y<=List.length s.parts/\allS dm s=allL dm (List.drop y s.parts))/\List.length s.parts-y<List.length s.parts-x/\E+(1:Int)=(↑y:Int)/\C else True/\true=allS dm s/\True:=by
 conv=>zeta
 have ln:=hs.parts.len;have hz:=ou s;have hl:=p9 s.parts;simp only[HC,Jx,Ii,Ij];refine⟨by omega,a6 (fun h=>?_) (fun h=>?_)⟩
 ·rw[lh];simp at h;simp[h]
 refine⟨⟨0,⟨by omega,by rw[lh];simp at h;simp[h]⟩,rfl⟩,?_⟩;rintro k ⟨h1,h3⟩;apply a6<;>intro h
 ·replace h:=Xo h;have hk:k<s.parts.length:=by omega
  have hm:=jR (cY s.parts k (dfl (.st .shape)) hk);rw[aT s.parts k (dfl (.st .shape)) hk]at h3;simp only[allL]at h3;refine⟨by omega,by omega,?_⟩;cases e:allS dm (s.parts.getD k (dfl (.st .shape)))
  ·rw[e]at h3;rw[h3];simp
  ·simp only[e,HR]at h3;exact⟨cA hk ln,k+1,⟨by omega,h3⟩,by omega,by omega⟩
 ·replace h:¬((k:Int)<(s.parts.length:Int)):=fun e=>h (Xd e);have e:k=s.parts.length:=by omega
  subst e;rw[h3,HG];rfl
theorem Fj(c:Int)(hc:0<=c/\c<=400) :
  let A:=(1:Int);let B:=c+A=c+A/\True;inR IntKind.i64 (c+A)/\if decide ((400:Int)<c+A)=true then decide ((400:Int)<c+A)=true/\B else decide ((400:Int)<c+A)=false/\B:=by
 conv=>zeta
 refine⟨aP (by omega) (by omega),a6 (fun h=>?_) (fun h=>?_)⟩
 ·exact⟨h,rfl,trivial⟩
 ·exact⟨by simpa using h,rfl,trivial⟩
theorem Fk(n:Nat)(s:Shape)(l c:Int)(hs:Wf (.st .shape) s)(hn:sz s<=n+1)(hc:0<=c/\c<=400/\1<=l/\l<=c+1) :
  let A:=(0:Int);let B:=(400:Int);let C:=(1:Int);let D:=(↑(sz s):Int);let E:=decide (B<c+D)=true;let F:=(401:Int);let G:=l+C;let H:=s.parts=s.parts;let I:=(↑(List.length s.parts):Int);let J:=s=s/\True;let K:=dfl (Ty.st SN.shape);(A<=c/\c<=B)/\if decide (B<c+C)=true then E/\c+C=F/\True else(∃(x:Nat×Int),let L:=(↑(szL (List.take x.1 s.parts)):Int);(x.1<=List.length s.parts/\c+C+L<=B/\deepL (List.drop x.1 s.parts) G x.2=deepS s l)/\l=x.2/\A=(↑x.1:Int)/\s=s/\l=l/\A=A/\H/\I=I/\c+C=c+C+L/\J)/\∀(x:Nat×Int),let L:=(↑(szL (List.take x.1 s.parts)):Int);let M:=c+C+L<=B;let N:=(↑x.1:Int);let O:=List.getD s.parts (Int.toNat N) K;let P:=(↑(sz O):Int);x.1<=List.length s.parts/\M/\deepL (List.drop x.1 s.parts) G x.2=deepS s l->if decide (N<I)=true then(A<=N/\N<I)/\inR IntKind.i64 G/\(sz O<=n/\A<=c+C+L/\M/\C<=l+C/\l+C<=c+C+L+C)/\if decide (B<c+C+L+P)=true then E/\F=F/\True else inR IntKind.i64 (N+C)/\∃(y:Nat×Int),let Q:=(↑(szL (List.take y.1 s.parts)):Int);(y.1<=List.length s.parts/\c+C+Q<=B/\deepL (List.drop y.1 s.parts) G y.2=deepS s l)/\List.length s.parts-y.1<List.length s.parts-x.1/\max x.2 (deepS O G)=y.2/\N+C=(↑y.1:Int)/\s=s/\l=l/\A=A/\H/\I=I/\c+C+L+P=c+C+Q/\J else decide (B<c+D)=false/\x.2=deepS s l/\c+C+L=c+D/\True:=by
 conv=>zeta
 have ln:=hs.parts.len;have hz:=ou s;refine⟨⟨hc.1,hc.2.1⟩,a6 (fun h=>?_) (fun h=>?_)⟩
 ·replace h:=Xo h;have:=mj s;exact⟨Xd (by omega),by omega,trivial⟩
 replace h:¬(400:Int)<c+1:=fun e=>h (Xd e);have hd0:deepL s.parts (l+1) l=deepS s l:=by cases s;rfl
 refine⟨⟨(0,l),⟨Hz _,by simp[szL];omega,by simpa using hd0⟩,rfl,rfl,rfl,rfl,rfl,rfl,rfl,by simp[szL],rfl,trivial⟩,?_⟩;rintro⟨k,d⟩ ⟨h1,h2,h3⟩;simp only[HC]at h1 h2 h3⊢;have hc0:(0:Int)<=(szL (s.parts.take k):Int):=by omega
 apply a6<;>intro hk
 ·replace hk:=Xo hk;have hk:k<s.parts.length:=by omega
  have hs1:=lQ s.parts k (dfl (.st .shape)) hk;have hm:=jR (cY s.parts k (dfl (.st .shape)) hk);rw[aT s.parts k (dfl (.st .shape)) hk]at h3;simp only[deepL]at h3;have ht:=vw s.parts (k+1);refine⟨by omega,aP (by omega) (by omega),⟨by omega,by omega,h2,by omega,by omega⟩,a6 (fun h=>?_) (fun h=>?_)⟩
  ·replace h:=Xo h;exact⟨Xd (by omega),by trivial,by trivial⟩
  ·replace h:=fun e=>h (Xd e);replace h:¬(400:Int)<c+1+(szL (s.parts.take k):Int)+(sz (s.parts.getD k (dfl (.st .shape))):Int):=h;exact⟨cA hk ln,(k+1,_),⟨by omega,by simp only;omega,h3⟩,by simp only;omega,rfl,by simp only;omega,by trivial,by trivial,by trivial,by trivial,by trivial,by simp only;omega,by trivial,by trivial⟩
 ·replace hk:¬((k:Int)<(s.parts.length:Int)):=fun e=>hk (Xd e);have e:k=s.parts.length:=by omega
  subst e;rw[Ja]at h2⊢;rw[HG]at h3;exact⟨Xf (by omega),h3,by omega,trivial⟩
theorem DD(s:Shape)(hs:Wf (.st .shape) s) :
  let A:=(0:Int);let B:=(1:Int);let C:=(↑(sz s):Int);let D:=if sz s<=(400:Nat)then C else(401:Int);let E:=if sz s<=(400:Nat)then deepS s B else A;(sz s<=sz s/\A<=A/\A<=(400:Int)/\B<=B/\B<=A+B)/\if decide ((400:Int)<A+C)=true then((401:Int)=D)/\(A=E)/\false=decide (sz s<=(400:Nat))/\True else(A+C=D)/\(deepS s B=E)/\true=decide (sz s<=(400:Nat))/\True:=by
 conv=>zeta
 refine⟨by simp,a6 (fun h=>?_) (fun h=>?_)⟩
 ·replace h:=Xo h;have h':¬sz s<=400:=by omega
  rw[Hh h',Hh h'];exact⟨rfl,rfl,by simp[h'],trivial⟩
 ·replace h:¬(400:Int)<0+(sz s:Int):=fun e=>h (Xd e);have h':sz s<=400:=by omega
  rw[Hj h',Hj h'];exact⟨by omega,by trivial,by simp[h'],trivial⟩
theorem DE(s:Shape)  :
  let A:=True;if(!decide (sz s<=(400:Nat)))=true then A/\(3:Int)=di s/\A else if decide ((40:Int)<if sz s<=(400:Nat)then deepS s (1:Int)else(0:Int))=true then A/\(91:Int)=di s/\A else sz s<=(400:Nat)/\if(!allS dm s)=true then A/\(70:Int)=di s/\A else A/\(0:Int)=di s/\A:=by
 conv=>zeta
 unfold di;by_cases h1:sz s<=400
 ·rw[Hh (by simp[h1]),Hj h1,Hh (show ¬400<sz s by omega)];by_cases h2:(40:Int)<deepS s 1
  ·rw[Hj (by simp[h2]),Hj h2];exact Xr
  ·rw[Hh (by simp[h2]),Hh h2];refine⟨h1,?_⟩;cases allS dm s<;>simp
 ·rw[Hj (by simp[h1]),Hj (show 400<sz s by omega)];exact Xr
theorem GB(s:Par)  :
  True/\(!decide (s.err=(0:Int)))=aQ s/\s=s/\True:=by
 simp only[aQ];trivial
theorem Fl(s:Par) (ho:a8 s) :
  let A:=(↑(List.length s.toks):Int);let B:=(0:Int);let C:=dfl (Ty.st SN.token);let D:=s=s/\True;let E:=ai s;let F:=(1:Int);if decide (s.pos<A)=true then(B<=s.pos/\s.pos<A)/\True/\List.getD s.toks (Int.toNat s.pos) C=ai s/\D else if decide (A=B)=true then True/\B=E.kind/\[]=E.text/\B=E.pos/\D else inR IntKind.i64 (A-F)/\(B<=A-F/\A-F<A)/\True/\B=E.kind/\[]=E.text/\(List.getD s.toks (Int.toNat (A-F)) C).pos=E.pos/\D:=by
 conv=>zeta
 obtain⟨g1,g2,g3⟩:=ho;unfold ai cK;apply a6<;>intro h
 ·replace h:=Xo h;rw[Hj h];exact⟨⟨g1,h⟩,trivial,rfl,rfl,trivial⟩
 ·replace h:¬s.pos<(s.toks.length:Int):=fun e=>h (Xd e);rw[Hh h];apply a6<;>intro k
  ·replace k:=Xo k;rw[Hj (by omega)];exact Xr
  ·replace k:¬(s.toks.length:Int)=0:=fun e=>k (Xd e);rw[Hh (by omega)];exact⟨aP (by omega) (by omega),⟨by omega,by omega⟩,trivial,rfl,rfl,rfl,rfl,trivial⟩
theorem Fm(s:Par)(e:Int)(a:Int)  :
  let A:=cC e a s;if(!aQ s)=true then True/\s.toks=A.toks/\s.pos=A.pos/\e=A.err/\a=A.fat/\True else True/\s=cC e a s/\True:=by
 conv=>zeta
 unfold cC aQ;by_cases h:s.err=0
 ·simp[h]
 ·simp[h]
theorem GV(s:Par)(t:Str) (ho:a8 s) :
  let A:=ai s;let B:=s=s/\True;let C:=True/\false=isF t s/\B;let D:=if decide (A.text=t)=true then True/\(!aQ s)=isF t s/\B else C;a8 s/\if decide (A.kind=(6:Int))=true then D else if decide (A.kind=(5:Int))=true then D else C:=by
 conv=>zeta
 refine⟨ho,?_⟩;have e:isF t s=((decide ((ai s).kind=6)||decide ((ai s).kind=5))&&decide ((ai s).text=t)&&!aQ s):=rfl;rw[e];by_cases a:(ai s).kind=6<;>by_cases b:(ai s).kind=5<;>by_cases c:(ai s).text=t<;>simp[a,b,c]
theorem GC(s:Par)(t:Str) (ho:a8 s) :
  let A:=cw t s;a8 s/\if(!isF t s)=true then True/\false=isF t s/\s=cw t s/\True else inR IntKind.i64 (s.pos+(1:Int))/\True/\true=isF t s/\s.toks=A.toks/\s.pos+(1:Int)=A.pos/\s.err=A.err/\s.fat=A.fat/\True:=by
 conv=>zeta
 refine⟨ho,a6 (fun h=>?_) (fun h=>?_)⟩
 ·have h:isF t s=false:=by simpa using h
  rw[aR h,h];simp
 ·have h:isF t s=true:=by simpa using h
  have:=ct h;have g:=ho;unfold a8 at g;rw[aH h,h];exact⟨aP (by omega) (by omega),trivial,rfl,rfl,rfl,rfl,rfl,trivial⟩
theorem Fo(s:Par)(t:Str) (ho:a8 s) :
  let A:=cw t s;a8 s/\if(!isF t s)=true then a8 A/\True/\cC (90:Int) (ai A).pos A=ak t s/\True else True/\cw t s=ak t s/\True:=by
 conv=>zeta
 refine⟨ho,a6 (fun h=>?_) (fun h=>?_)⟩
 ·have h:isF t s=false:=by simpa using h
  rw[aR h];refine⟨ho,trivial,?_,trivial⟩;unfold ak;rw[h];rfl
 ·have h:isF t s=true:=by simpa using h
  rw[aH h];refine⟨trivial,?_,trivial⟩;unfold ak;rw[h];rfl
theorem Fp(s:Par)(k:Int) (ho:a8 s/\¬k=0) :
  let A:=aE k s;let B:=True/\(0:Int)=A.1.kind/\[]=A.1.text/\(0:Int)=A.1.pos/\cC (90:Int) (ai s).pos s=A.2/\True;a8 s/\if(!decide ((ai s).kind=k))=true then B else if aQ s=true then B else inR IntKind.i64 (s.pos+(1:Int))/\True/\ai s=A.1/\s.toks=A.2.toks/\s.pos+(1:Int)=A.2.pos/\s.err=A.2.err/\s.fat=A.2.fat/\True:=by
 conv=>zeta
 obtain⟨ho,hk⟩:=ho;refine⟨ho,a6 (fun h=>?_) (fun h=>?_)⟩
 ·have h:¬(ai s).kind=k:=by simpa using h
  unfold aE;rw[Hh (fun e=>h e.1)];exact Xr
 ·have h:(ai s).kind=k:=by simpa using h
  apply a6<;>intro b
  ·unfold aE;rw[Hh (fun e=>by rw[e.2]at b;cases b)];exact Xr
  ·have b:aQ s=false:=by simpa using b
   have:=fC (l:=s.toks) (a:=s.pos) (by have:=h;unfold ai at this;rw[this];exact hk);have g:=ho;unfold a8 at g;unfold aE;rw[Hj ⟨h,b⟩];exact⟨aP (by omega) (by omega),trivial,rfl,rfl,rfl,rfl,rfl,trivial⟩
theorem DF(s:Par)(ns:List Str) (ho:a8 s)(wns:Wf (.lst .str) ns) :
  let A:=(aE (1:Int) s);let B:=aJ ns s;let C:=A.1.text=B.1;let D:=True/\C/\A.2=B.2/\True;(a8 s/\¬(1:Int)=(0:Int))/\if(!aQ A.2)=true then if decide (A.1.text∈ns)=true then True/\C/\cC (111:Int) A.1.pos A.2=B.2/\True else D else D:=by
 conv=>zeta
 refine⟨⟨ho,by decide⟩,?_⟩;have e1:(aJ ns s).1=(aE 1 s).1.text:=rfl;have e2:(aJ ns s).2=(if aQ (aE 1 s).2=false/\(aE 1 s).1.text∈ns then cC 111 (aE 1 s).1.pos (aE 1 s).2 else(aE 1 s).2):=rfl;rw[e1,e2];apply a6<;>intro h
 ·have h:aQ (aE 1 s).2=false:=by simpa using h
  apply a6<;>intro m
  ·rw[Hj ⟨h,Xo m⟩];exact Xr
  ·rw[Hh (fun e=>m (Xd e.2))];exact Xr
 ·rw[Hh (fun e=>h (by rw[e.1];rfl))];exact Xr
theorem DG(p n:Str)  :
  let A:=True;let B:=jS p n;let C:=B.names=[]/\B.parts=[]/\A;let D:=[]=B.pkg/\[]=B.name/\C;let E:=A/\(9:Int)=B.kind/\p=B.pkg/\n=B.name/\C;if decide (p=[])=true then if decide (n=([73,110,116]:Str))=true then A/\(1:Int)=B.kind/\D else if decide (n=([66,111,111,108]:Str))=true then A/\(2:Int)=B.kind/\D else if decide (n=([84,101,120,116]:Str))=true then A/\(3:Int)=B.kind/\D else if decide (n=([65,110,121]:Str))=true then A/\(4:Int)=B.kind/\D else E else E:=by
 conv=>zeta
 unfold jS;by_cases h:p=[]
 ·by_cases a:n=[73,110,116]
  ·simp[h,a]
  by_cases b:n=[66,111,111,108]
  ·simp[h,b]
  by_cases c:n=[84,101,120,116]
  ·simp[h,c]
  by_cases d:n=[65,110,121]
  ·simp[h,d]
  simp[h,a,b,c,d]
 ·simp[h]
theorem DH(n:Nat)(s:Par) (ho:a8 s/\rem (ak [58] s)<n) :
  let A:=(ak ([58]:Str) s);let B:=ag n A;a8 s/\(a8 A/\rem A<n)/\True/\B.1=B.1/\B.2=B.2/\True:=by
 conv=>zeta
 exact⟨ho.1,⟨(ba ho.1).good,ho.2⟩,trivial,rfl,rfl,trivial⟩
theorem Bi(n:Nat)(x:Shape)(s:Par)(hi:a8 s)(h0:s.err=0)(hn:rem s<=n)(hl:x.names.length+x.parts.length<=100000) :
  let A:=aJ x.names s;let B:=(140737488355328:Nat);let C:=(ak ([58]:Str) A.2);let D:=List.length x.parts=List.length x.parts;let E:=(↑(List.length x.parts):Int);let F:=aw (ag n) x s;a8 s/\(List.length x.names=List.length x.names/\(List.length x.names+List.length [A.1])*(16:Nat)<=B)/\(a8 A.2/\rem C<n)/\(D/\(List.length x.parts+(1:Nat))*(88:Nat)<=B)/\E=E/\D/\D/\D/\True/\x.kind=F.1.kind/\x.pkg=F.1.pkg/\x.name=F.1.name/\x.names++[A.1]=F.1.names/\x.parts++[(ag n C).1]=F.1.parts/\(ag n C).2=F.2/\List.length (x.names++[A.1])=List.length F.1.names/\List.length x.parts+(1:Nat)=List.length F.1.parts/\True:=by
 conv=>zeta
 obtain⟨g1,e1⟩:=jT (ns:=x.names) hi;have g2:=ba (t:=[58]) g1.good;have e2:=(e1.then g2).lt hn h0;refine⟨hi,⟨rfl,by simp only[Hm];omega⟩,⟨g1.good,e2⟩,⟨rfl,by omega⟩,rfl,rfl,rfl,rfl,trivial,rfl,rfl,rfl,rfl,rfl,rfl,rfl,?_,trivial⟩;show _=(x.parts++[_]).length;simp
theorem DI(n:Nat)(x:Shape)(s:Par)(hi:a8 s)(hn:rem s<n)(hl:x.parts.length<=100000) :
  let A:=List.length x.parts=List.length x.parts;let B:=(↑(List.length x.parts):Int);let C:=aA (ag n) x s;(a8 s/\rem s<n)/\(A/\(List.length x.parts+(1:Nat))*(88:Nat)<=(140737488355328:Nat))/\B=B/\A/\A/\A/\True/\x.kind=C.1.kind/\x.pkg=C.1.pkg/\x.name=C.1.name/\x.parts++[(ag n s).1]=C.1.parts/\List.length x.parts+(1:Nat)=List.length C.1.parts/\(ag n s).2=C.2/\True:=by
 conv=>zeta
 refine⟨⟨hi,hn⟩,⟨rfl,by omega⟩,rfl,rfl,rfl,rfl,trivial,rfl,rfl,rfl,rfl,?_,rfl,trivial⟩;show _=(x.parts++[_]).length;simp
theorem DJ(n:Nat)(b e:Str)(k:Int)(s:Par)(hi:a8 s)(hn:rem s<=n) :
  let A:=True;let B:=ag n;let C:=aw B;let D:=(ab b e C {kind:=k,pkg:=[],name:=[],names:=[],parts:=[]:Shape} s);let E:=(0:Nat);let F:=(5000:Nat);a8 s/\if isF e s=true then A/\cw e s=D.2/\k=D.1.kind/\[]=D.1.pkg/\[]=D.1.name/\D.1.names=[]/\D.1.parts=[]/\List.length D.1.names=E/\List.length D.1.parts=E/\A else(∃(x:Nat×Shape×Par),(a8 x.2.2/\rem x.2.2<x.1/\rem x.2.2<=n/\List.length x.2.1.names+x.1<=F/\List.length x.2.1.parts+x.1<=F/\aX b e C x.1 x.2.1 x.2.2=ab b e C {kind:=k,pkg:=[],name:=[],names:=[],parts:=[]:Shape} s)/\b=b/\e=e/\false=false/\cw e s=x.2.2/\k=x.2.1.kind/\[]=x.2.1.pkg/\[]=x.2.1.name/\x.2.1.names=[]/\x.2.1.parts=[]/\List.length x.2.1.names=E/\List.length x.2.1.parts=E/\A)/\∀(x:Nat×Shape×Par),let G:=a8 x.2.2;let H:=rem x.2.2<=n;let I:=aw B x.2.1 x.2.2;let J:=cw e I.2;G/\rem x.2.2<x.1/\H/\List.length x.2.1.names+x.1<=F/\List.length x.2.1.parts+x.1<=F/\aX b e C x.1 x.2.1 x.2.2=ab b e C {kind:=k,pkg:=[],name:=[],names:=[],parts:=[]:Shape} s->if(!aQ x.2.2)=true then(G/\x.2.2.err=(0:Int)/\H/\List.length x.2.1.names=List.length x.2.1.names/\List.length x.2.1.parts=List.length x.2.1.parts/\List.length x.2.1.names+List.length x.2.1.parts<=(100000:Nat))/\a8 I.2/\if isF e I.2=true then A/\cw e I.2=D.2/\I.1.kind=D.1.kind/\I.1.pkg=D.1.pkg/\I.1.name=D.1.name/\I.1.names=D.1.names/\I.1.parts=D.1.parts/\List.length I.1.names=List.length D.1.names/\List.length I.1.parts=List.length D.1.parts/\A else a8 J/\∃(y:Nat×Shape×Par),(a8 y.2.2/\rem y.2.2<y.1/\rem y.2.2<=n/\List.length y.2.1.names+y.1<=F/\List.length y.2.1.parts+y.1<=F/\aX b e C y.1 y.2.1 y.2.2=ab b e C {kind:=k,pkg:=[],name:=[],names:=[],parts:=[]:Shape} s)/\y.1<x.1/\b=b/\e=e/\false=false/\ak b J=y.2.2/\I.1.kind=y.2.1.kind/\I.1.pkg=y.2.1.pkg/\I.1.name=y.2.1.name/\I.1.names=y.2.1.names/\I.1.parts=y.2.1.parts/\List.length I.1.names=List.length y.2.1.names/\List.length I.1.parts=List.length y.2.1.parts/\A else A/\x.2.2=D.2/\x.2.1.kind=D.1.kind/\x.2.1.pkg=D.1.pkg/\x.2.1.name=D.1.name/\x.2.1.names=D.1.names/\x.2.1.parts=D.1.parts/\List.length x.2.1.names=List.length D.1.names/\List.length x.2.1.parts=List.length D.1.parts/\A:=by
 conv=>zeta
 have hl:=hi.2.2.1;have hF:ab b e (aw (ag n)) ⟨k,[],[],[],[]⟩ s=if isF e s=true then(⟨k,[],[],[],[]⟩,au s)else aX b e (aw (ag n)) (s.toks.length+2) ⟨k,[],[],[],[]⟩ s:=rfl
 have hrd:dn (aw (ag n)) n:=cH (b8 n);generalize ab b e (aw (ag n)) ⟨k,[],[],[],[]⟩ s=fin at hF⊢;refine⟨hi,a6 (fun h=>?_) (fun h=>?_)⟩
 ·rw[Hj h]at hF;subst hF;refine⟨trivial,aH h,?_⟩;exact Xr
 ·rw[Hh h]at hF;have h:isF e s=false:=by simpa using h
  rw[aR h];refine⟨⟨(s.toks.length+2,⟨k,[],[],[],[]⟩,s),⟨hi,by show rem s<_;have h1:=hi.1;have h2:=hi.2.1;unfold rem;split<;>omega,hn,by show 0+_<=_;omega,by show 0+_<=_;omega,hF.symm⟩,by trivial,by trivial,by trivial,by trivial,?_⟩,?_⟩
  ·exact Xr
  rintro⟨j,x,s1⟩ ⟨i1,i2,i3,l0,l1,i6⟩;simp only at i1 i2 i3 l0 l1 i6⊢;apply a6<;>intro hb
  ·have h0:s1.err=0:=bf.1 (by simpa using hb);obtain⟨j,rfl⟩:∃m,j=m+1:=⟨j-1,by omega⟩;have hp:=bA h0;obtain⟨g,ea⟩:=hrd x s1 i1 h0 (by omega);have hbf:¬aQ s1=true:=by simp[aQ,h0]
   simp only[aX,Hh hbf]at i6;refine⟨⟨i1,h0,i3,by trivial,by trivial,by omega⟩,g.good,a6 (fun c=>?_) (fun c=>?_)⟩
   ·rw[Hj c]at i6;subst i6;refine⟨trivial,aH c,?_⟩;exact Xr
   ·have c:isF e (aw (ag n) x s1).2=false:=by simpa using c
    rw[Hh (by simp[c])]at i6;rw[aR c];obtain⟨n1,n2,n3,n4⟩:=eY hrd (btw:=b) (en:=e) (x:=x) i1 h0 (by omega) i2;refine⟨g.good,(j,(aw (ag n) x s1).1,ak b (aw (ag n) x s1).2),⟨n1,n4,n3,by show(x.names++[_]).length+j<=5000;simp only[Ho,Hm];omega,by show(x.parts++[_]).length+j<=5000;simp only[Ho,Hm];omega,i6⟩,by show j<j+1;omega,by trivial,by trivial,by trivial,by trivial,?_⟩;exact Xr
  ·have h0:¬s1.err=0:=b7.1 (by simpa using hb);have hbf:aQ s1=true:=b7.2 h0
   have:(x,s1)=fin:=by
    rw[<-i6]
    cases j with|zero=>rfl|succ j=>simp only[aX,Hj hbf]
   subst this;refine⟨trivial,rfl,?_⟩;exact Xr
theorem DK(n:Nat)(b e:Str)(k:Int)(s:Par)(hi:a8 s)(hn:rem s<n) :
  let A:=True;let B:=ag n;let C:=aA B;let D:=(ab b e C {kind:=k,pkg:=[],name:=[],names:=[],parts:=[]:Shape} s);let E:=(5000:Nat);a8 s/\if isF e s=true then A/\cw e s=D.2/\k=D.1.kind/\[]=D.1.pkg/\[]=D.1.name/\D.1.parts=[]/\List.length D.1.parts=(0:Nat)/\A else(∃(x:Nat×Shape×Par),(a8 x.2.2/\rem x.2.2<x.1/\rem x.2.2<n/\List.length x.2.1.parts+x.1<=E/\x.2.1.names=[]/\aX b e C x.1 x.2.1 x.2.2=ab b e C {kind:=k,pkg:=[],name:=[],names:=[],parts:=[]:Shape} s)/\b=b/\e=e/\false=false/\cw e s=x.2.2/\k=x.2.1.kind/\[]=x.2.1.pkg/\[]=x.2.1.name/\x.2.1.parts=[]/\List.length x.2.1.parts=(0:Nat)/\A)/\∀(x:Nat×Shape×Par),let F:=a8 x.2.2;let G:=rem x.2.2<n;let H:=(aA B {kind:=x.2.1.kind,pkg:=x.2.1.pkg,name:=x.2.1.name,names:=[],parts:=x.2.1.parts:Shape} x.2.2);let I:=cw e H.2;F/\rem x.2.2<x.1/\G/\List.length x.2.1.parts+x.1<=E/\x.2.1.names=[]/\aX b e C x.1 x.2.1 x.2.2=ab b e C {kind:=k,pkg:=[],name:=[],names:=[],parts:=[]:Shape} s->if(!aQ x.2.2)=true then(F/\G/\List.length x.2.1.parts=List.length x.2.1.parts/\List.length x.2.1.parts<=(100000:Nat))/\a8 H.2/\if isF e H.2=true then A/\cw e H.2=D.2/\H.1.kind=D.1.kind/\H.1.pkg=D.1.pkg/\H.1.name=D.1.name/\H.1.parts=D.1.parts/\List.length H.1.parts=List.length D.1.parts/\A else a8 I/\∃(y:Nat×Shape×Par),(a8 y.2.2/\rem y.2.2<y.1/\rem y.2.2<n/\List.length y.2.1.parts+y.1<=E/\y.2.1.names=[]/\aX b e C y.1 y.2.1 y.2.2=ab b e C {kind:=k,pkg:=[],name:=[],names:=[],parts:=[]:Shape} s)/\y.1<x.1/\b=b/\e=e/\false=false/\ak b I=y.2.2/\H.1.kind=y.2.1.kind/\H.1.pkg=y.2.1.pkg/\H.1.name=y.2.1.name/\H.1.parts=y.2.1.parts/\List.length H.1.parts=List.length y.2.1.parts/\A else A/\x.2.2=D.2/\x.2.1.kind=D.1.kind/\x.2.1.pkg=D.1.pkg/\x.2.1.name=D.1.name/\x.2.1.parts=D.1.parts/\List.length x.2.1.parts=List.length D.1.parts/\A:=by
 conv=>zeta
 have hl:=hi.2.2.1;have hF:ab b e (aA (ag n)) ⟨k,[],[],[],[]⟩ s=if isF e s=true then(⟨k,[],[],[],[]⟩,au s)else aX b e (aA (ag n)) (s.toks.length+2) ⟨k,[],[],[],[]⟩ s:=rfl
 have hrd:dn (aA (ag n)) (n-1):=ew (by rw[Im (by omega)];exact b8 n);generalize ab b e (aA (ag n)) ⟨k,[],[],[],[]⟩ s=fin at hF⊢;refine⟨hi,a6 (fun h=>?_) (fun h=>?_)⟩
 ·rw[Hj h]at hF;subst hF;refine⟨trivial,aH h,?_⟩;exact Xr
 ·rw[Hh h]at hF;have h:isF e s=false:=by simpa using h
  rw[aR h];refine⟨⟨(s.toks.length+2,⟨k,[],[],[],[]⟩,s),⟨hi,by show rem s<_;have h1:=hi.1;have h2:=hi.2.1;unfold rem;split<;>omega,hn,by show 0+_<=_;omega,rfl,hF.symm⟩,by trivial,by trivial,by trivial,by trivial,?_⟩,?_⟩
  ·exact Xr
  rintro⟨j,x,s1⟩ ⟨i1,i2,i3,l0,ik,i6⟩;simp only at i1 i2 i3 l0 ik i6⊢;have ex:(⟨x.kind,x.pkg,x.name,[],x.parts⟩:Shape)=x:=by cases x;simp_all
  try rw[ex]
  apply a6<;>intro hb
  ·have h0:s1.err=0:=bf.1 (by simpa using hb);obtain⟨j,rfl⟩:∃m,j=m+1:=⟨j-1,by omega⟩;have hp:=bA h0;obtain⟨g,ea⟩:=hrd x s1 i1 h0 (by omega);have hbf:¬aQ s1=true:=by simp[aQ,h0]
   simp only[aX,Hh hbf]at i6;refine⟨⟨i1,i3,by trivial,by omega⟩,g.good,a6 (fun c=>?_) (fun c=>?_)⟩
   ·rw[Hj c]at i6;subst i6;refine⟨trivial,aH c,?_⟩;exact Xr
   ·have c:isF e (aA (ag n) x s1).2=false:=by simpa using c
    rw[Hh (by simp[c])]at i6;rw[aR c];obtain⟨n1,n2,n3,n4⟩:=eY hrd (btw:=b) (en:=e) (x:=x) i1 h0 (by omega) i2;refine⟨g.good,(j,(aA (ag n) x s1).1,ak b (aA (ag n) x s1).2),⟨n1,n4,by show rem (ak b _)<n;omega,by show(x.parts++[_]).length+j<=5000;simp only[Ho,Hm];omega,ik,i6⟩,by show j<j+1;omega,by trivial,by trivial,by trivial,by trivial,?_⟩;exact Xr
  ·have h0:¬s1.err=0:=b7.1 (by simpa using hb);have hbf:aQ s1=true:=b7.2 h0
   have:(x,s1)=fin:=by
    rw[<-i6]
    cases j with|zero=>rfl|succ j=>simp only[aX,Hj hbf]
   subst this;refine⟨trivial,rfl,?_⟩;exact Xr
theorem DL(n:Nat)(s:Par)(hi:a8 s)(hn:rem s<n+1) :
  let A:=ai s;let B:=(2:Int);let C:=(1:Int);let D:=inR IntKind.i64 (s.pos+C);let E:=True;let F:=(ag (n+(1:Nat)) s);let G:=(ak ([47]:Str) {toks:=s.toks,pos:=s.pos+C,err:=s.err,fat:=s.fat:Par});let H:=(cw ([91]:Str) s);let I:=ag n H;let J:=[]=F.1.pkg;let K:=[]=F.1.name;let L:=F.1.names=[];let M:=(cw ([123]:Str) H);let N:=aw (ag n);let O:=(ab ([44]:Str) ([125]:Str) N {kind:=(6:Int),pkg:=[],name:=[],names:=[],parts:=[]:Shape} M);let P:=(cw ([60]:Str) M);let Q:=(ab ([124]:Str) ([62]:Str) N {kind:=(7:Int),pkg:=[],name:=[],names:=[],parts:=[]:Shape} P);let R:=(cw ([40]:Str) P);let S:=(ab ([44]:Str) ([41]:Str) (aA (ag n)) {kind:=(8:Int),pkg:=[],name:=[],names:=[],parts:=[]:Shape} R);let T:=(ak ([45,62]:Str) S.2);let U:=List.length S.1.parts=List.length S.1.parts;let V:=(↑(List.length S.1.parts):Int);let W:=a8 s/\if isF ([91]:Str) s=true then(a8 H/\rem H<n)/\a8 I.2/\E/\(5:Int)=F.1.kind/\J/\K/\L/\[I.1]=F.1.parts/\ak ([93]:Str) I.2=F.2/\E else a8 H/\if isF ([123]:Str) H=true then(a8 M/\rem M<=n)/\E/\O.1.kind=F.1.kind/\O.1.pkg=F.1.pkg/\O.1.name=F.1.name/\O.1.names=F.1.names/\O.1.parts=F.1.parts/\O.2=F.2/\E else a8 M/\if isF ([60]:Str) M=true then(a8 P/\rem P<=n)/\E/\Q.1.kind=F.1.kind/\Q.1.pkg=F.1.pkg/\Q.1.name=F.1.name/\Q.1.names=F.1.names/\Q.1.parts=F.1.parts/\Q.2=F.2/\E else a8 P/\if isF ([40]:Str) P=true then(a8 R/\rem R<n)/\a8 S.2/\(a8 T/\rem T<n)/\(U/\(List.length S.1.parts+(1:Nat))*(88:Nat)<=(140737488355328:Nat))/\V=V/\U/\U/\U/\E/\S.1.kind=F.1.kind/\S.1.pkg=F.1.pkg/\S.1.name=F.1.name/\L/\S.1.parts++[(ag n T).1]=F.1.parts/\(ag n T).2=F.2/\E else E/\(0:Int)=F.1.kind/\J/\K/\L/\F.1.parts=[]/\cC (90:Int) A.pos R=F.2/\E;let X:=if decide (A.kind=C)=true then if(!aQ s)=true then D/\a8 {toks:=s.toks,pos:=s.pos+C,err:=s.err,fat:=s.fat:Par}/\(a8 G/\¬B=(0:Int))/\E/\jS A.text (aE B G).1.text=F.1/\(aE B G).2=F.2/\E else W else W;a8 s/\if decide (A.kind=B)=true then if(!aQ s)=true then D/\E/\jS [] A.text=F.1/\s.toks=F.2.toks/\s.pos+C=F.2.pos/\s.err=F.2.err/\s.fat=F.2.fat/\E else X else X:=by
 conv=>zeta
 have hG:ag (n+1) s=gA (ag n) s:=rfl;unfold gA at hG;dsimp only at hG;generalize ag (n+1) s=G at hG⊢;refine⟨hi,a6 (fun k2=>a6 (fun b=>?a) (fun b=>a6 (fun k1=>a6 (fun b1=>?x) (fun b1=>?t1)) (fun k1=>?t2))) (fun k2=>a6 (fun k1=>a6 (fun b=>?c) (fun b=>?t3)) (fun k1=>?t4))⟩
 case a=>
  have k2:(ai s).kind=2:=by simpa using k2
  have b:aQ s=false:=by simpa using b
  rw[Hj ⟨k2,b⟩]at hG;subst hG;have hl:=fC (l:=s.toks) (a:=s.pos) (by unfold ai at k2;omega);have h1:=hi.1;have h2:=hi.2.2.1;refine⟨aP (by omega) (by omega),?_⟩;exact Xr
 case x=>exact absurd b1 b
 case c=>
  have k2:¬(ai s).kind=2:=by simpa using k2
  have k1:(ai s).kind=1:=by simpa using k1
  have b:aQ s=false:=by simpa using b
  rw[Hh (fun h=>k2 h.1),Hj ⟨k1,b⟩]at hG;subst hG;have hl:=fC (l:=s.toks) (a:=s.pos) (by unfold ai at k1;omega);have h1:=hi.1;have h2:=hi.2.2.1;have ga:=qi hi hl;have gm:=ba (t:=[47]) ga;refine⟨aP (by omega) (by omega),ga,⟨gm.good,by omega⟩,?_⟩;exact Xr
 case t1=>
  rw[Hh (fun h=>by simp[h.2]at b),Hh (fun h=>by simp[h.2]at b)]at hG;refine⟨hi,a6 (fun c=>?_) (fun c=>?_)⟩;rotate_left
  ·rw[Hh c]at hG;have c:isF [91] s=false:=by simpa using c
   rw[aR c];refine⟨hi,a6 (fun c=>?_) (fun c=>?_)⟩;rotate_left
   ·rw[Hh c]at hG;have c:isF [123] s=false:=by simpa using c
    rw[aR c];refine⟨hi,a6 (fun c=>?_) (fun c=>?_)⟩;rotate_left
    ·rw[Hh c]at hG;have c:isF [60] s=false:=by simpa using c
     rw[aR c];refine⟨hi,a6 (fun c=>?_) (fun c=>?_)⟩;rotate_left
     ·rw[Hh c]at hG;have c:isF [40] s=false:=by simpa using c
      rw[aR c];subst hG;exact Xr
     rw[Hj c]at hG;subst hG;have g:=cQ hi c;have r:=aG hi c;rw[aH c];have hP:dn (aA (ag n)) (n-1):=ew (by rw[Im (by omega)];exact b8 n);have gl:=aI hP [44] [41] ⟨8,[],[],[],[]⟩ g.good (by omega);have ll:=dy (fun x:Shape=>x.parts.length) (one:=aA (ag n)) (fun x s=>by simp[aA]) [44] [41] ⟨8,[],[],[],[]⟩ (au s);have lk:=ck (fun x:Shape=>x.names=[]) (one:=aA (ag n)) (fun x s h=>h) [44] [41] (x:=⟨8,[],[],[],[]⟩) (au s) rfl;have ht:(au s).toks=s.toks:=rfl;have hl:=hi.2.2.1;generalize ab [44] [41] (aA (ag n)) ⟨8,[],[],[],[]⟩ (au s)=L at gl ll lk⊢;have gm:=ba (t:=[45,62]) gl.good;simp only[ht,I5]at ll;have hlt:rem (ak [45,62] L.2)<n:=by have:=gm.le;have:=gl.le;omega
     refine⟨⟨g.good,by omega⟩,gl.good,⟨gm.good,hlt⟩,⟨by trivial,by omega⟩,?_⟩;exact Xr
    rw[Hj c]at hG;subst hG;have g:=cQ hi c;have r:=aG hi c;rw[aH c];have gl:=aI (cH (b8 n)) [124] [62] ⟨7,[],[],[],[]⟩ g.good (by omega);refine⟨⟨g.good,by omega⟩,?_⟩;exact Xr
   rw[Hj c]at hG;subst hG;have g:=cQ hi c;have r:=aG hi c;rw[aH c];have gl:=aI (cH (b8 n)) [44] [125] ⟨6,[],[],[],[]⟩ g.good (by omega);refine⟨⟨g.good,by omega⟩,?_⟩;exact Xr
  rw[Hj c]at hG;subst hG;have g:=cQ hi c;have r:=aG hi c;rw[aH c];obtain⟨gb,eb⟩:=b8 n _ g.good (by omega);refine⟨⟨g.good,by omega⟩,gb.good,?_⟩;exact Xr
 case t2=>
  rw[Hh (fun h=>by simp[h.2]at b),Hh (fun h=>by simp[h.1]at k1)]at hG;refine⟨hi,a6 (fun c=>?_) (fun c=>?_)⟩;rotate_left
  ·rw[Hh c]at hG;have c:isF [91] s=false:=by simpa using c
   rw[aR c];refine⟨hi,a6 (fun c=>?_) (fun c=>?_)⟩;rotate_left
   ·rw[Hh c]at hG;have c:isF [123] s=false:=by simpa using c
    rw[aR c];refine⟨hi,a6 (fun c=>?_) (fun c=>?_)⟩;rotate_left
    ·rw[Hh c]at hG;have c:isF [60] s=false:=by simpa using c
     rw[aR c];refine⟨hi,a6 (fun c=>?_) (fun c=>?_)⟩;rotate_left
     ·rw[Hh c]at hG;have c:isF [40] s=false:=by simpa using c
      rw[aR c];subst hG;exact Xr
     rw[Hj c]at hG;subst hG;have g:=cQ hi c;have r:=aG hi c;rw[aH c];have hP:dn (aA (ag n)) (n-1):=ew (by rw[Im (by omega)];exact b8 n);have gl:=aI hP [44] [41] ⟨8,[],[],[],[]⟩ g.good (by omega);have ll:=dy (fun x:Shape=>x.parts.length) (one:=aA (ag n)) (fun x s=>by simp[aA]) [44] [41] ⟨8,[],[],[],[]⟩ (au s);have lk:=ck (fun x:Shape=>x.names=[]) (one:=aA (ag n)) (fun x s h=>h) [44] [41] (x:=⟨8,[],[],[],[]⟩) (au s) rfl;have ht:(au s).toks=s.toks:=rfl;have hl:=hi.2.2.1;generalize ab [44] [41] (aA (ag n)) ⟨8,[],[],[],[]⟩ (au s)=L at gl ll lk⊢;have gm:=ba (t:=[45,62]) gl.good;simp only[ht,I5]at ll;have hlt:rem (ak [45,62] L.2)<n:=by have:=gm.le;have:=gl.le;omega
     refine⟨⟨g.good,by omega⟩,gl.good,⟨gm.good,hlt⟩,⟨by trivial,by omega⟩,?_⟩;exact Xr
    rw[Hj c]at hG;subst hG;have g:=cQ hi c;have r:=aG hi c;rw[aH c];have gl:=aI (cH (b8 n)) [124] [62] ⟨7,[],[],[],[]⟩ g.good (by omega);refine⟨⟨g.good,by omega⟩,?_⟩;exact Xr
   rw[Hj c]at hG;subst hG;have g:=cQ hi c;have r:=aG hi c;rw[aH c];have gl:=aI (cH (b8 n)) [44] [125] ⟨6,[],[],[],[]⟩ g.good (by omega);refine⟨⟨g.good,by omega⟩,?_⟩;exact Xr
  rw[Hj c]at hG;subst hG;have g:=cQ hi c;have r:=aG hi c;rw[aH c];obtain⟨gb,eb⟩:=b8 n _ g.good (by omega);refine⟨⟨g.good,by omega⟩,gb.good,?_⟩;exact Xr
 case t3=>
  rw[Hh (fun h=>by simp[h.1]at k2),Hh (fun h=>by simp[h.2]at b)]at hG;refine⟨hi,a6 (fun c=>?_) (fun c=>?_)⟩;rotate_left
  ·rw[Hh c]at hG;have c:isF [91] s=false:=by simpa using c
   rw[aR c];refine⟨hi,a6 (fun c=>?_) (fun c=>?_)⟩;rotate_left
   ·rw[Hh c]at hG;have c:isF [123] s=false:=by simpa using c
    rw[aR c];refine⟨hi,a6 (fun c=>?_) (fun c=>?_)⟩;rotate_left
    ·rw[Hh c]at hG;have c:isF [60] s=false:=by simpa using c
     rw[aR c];refine⟨hi,a6 (fun c=>?_) (fun c=>?_)⟩;rotate_left
     ·rw[Hh c]at hG;have c:isF [40] s=false:=by simpa using c
      rw[aR c];subst hG;exact Xr
     rw[Hj c]at hG;subst hG;have g:=cQ hi c;have r:=aG hi c;rw[aH c];have hP:dn (aA (ag n)) (n-1):=ew (by rw[Im (by omega)];exact b8 n);have gl:=aI hP [44] [41] ⟨8,[],[],[],[]⟩ g.good (by omega);have ll:=dy (fun x:Shape=>x.parts.length) (one:=aA (ag n)) (fun x s=>by simp[aA]) [44] [41] ⟨8,[],[],[],[]⟩ (au s);have lk:=ck (fun x:Shape=>x.names=[]) (one:=aA (ag n)) (fun x s h=>h) [44] [41] (x:=⟨8,[],[],[],[]⟩) (au s) rfl;have ht:(au s).toks=s.toks:=rfl;have hl:=hi.2.2.1;generalize ab [44] [41] (aA (ag n)) ⟨8,[],[],[],[]⟩ (au s)=L at gl ll lk⊢;have gm:=ba (t:=[45,62]) gl.good;simp only[ht,I5]at ll;have hlt:rem (ak [45,62] L.2)<n:=by have:=gm.le;have:=gl.le;omega
     refine⟨⟨g.good,by omega⟩,gl.good,⟨gm.good,hlt⟩,⟨by trivial,by omega⟩,?_⟩;exact Xr
    rw[Hj c]at hG;subst hG;have g:=cQ hi c;have r:=aG hi c;rw[aH c];have gl:=aI (cH (b8 n)) [124] [62] ⟨7,[],[],[],[]⟩ g.good (by omega);refine⟨⟨g.good,by omega⟩,?_⟩;exact Xr
   rw[Hj c]at hG;subst hG;have g:=cQ hi c;have r:=aG hi c;rw[aH c];have gl:=aI (cH (b8 n)) [44] [125] ⟨6,[],[],[],[]⟩ g.good (by omega);refine⟨⟨g.good,by omega⟩,?_⟩;exact Xr
  rw[Hj c]at hG;subst hG;have g:=cQ hi c;have r:=aG hi c;rw[aH c];obtain⟨gb,eb⟩:=b8 n _ g.good (by omega);refine⟨⟨g.good,by omega⟩,gb.good,?_⟩;exact Xr
 case t4=>
  rw[Hh (fun h=>by simp[h.1]at k2),Hh (fun h=>by simp[h.1]at k1)]at hG;refine⟨hi,a6 (fun c=>?_) (fun c=>?_)⟩;rotate_left
  ·rw[Hh c]at hG;have c:isF [91] s=false:=by simpa using c
   rw[aR c];refine⟨hi,a6 (fun c=>?_) (fun c=>?_)⟩;rotate_left
   ·rw[Hh c]at hG;have c:isF [123] s=false:=by simpa using c
    rw[aR c];refine⟨hi,a6 (fun c=>?_) (fun c=>?_)⟩;rotate_left
    ·rw[Hh c]at hG;have c:isF [60] s=false:=by simpa using c
     rw[aR c];refine⟨hi,a6 (fun c=>?_) (fun c=>?_)⟩;rotate_left
     ·rw[Hh c]at hG;have c:isF [40] s=false:=by simpa using c
      rw[aR c];subst hG;exact Xr
     rw[Hj c]at hG;subst hG;have g:=cQ hi c;have r:=aG hi c;rw[aH c];have hP:dn (aA (ag n)) (n-1):=ew (by rw[Im (by omega)];exact b8 n);have gl:=aI hP [44] [41] ⟨8,[],[],[],[]⟩ g.good (by omega);have ll:=dy (fun x:Shape=>x.parts.length) (one:=aA (ag n)) (fun x s=>by simp[aA]) [44] [41] ⟨8,[],[],[],[]⟩ (au s);have lk:=ck (fun x:Shape=>x.names=[]) (one:=aA (ag n)) (fun x s h=>h) [44] [41] (x:=⟨8,[],[],[],[]⟩) (au s) rfl;have ht:(au s).toks=s.toks:=rfl;have hl:=hi.2.2.1;generalize ab [44] [41] (aA (ag n)) ⟨8,[],[],[],[]⟩ (au s)=L at gl ll lk⊢;have gm:=ba (t:=[45,62]) gl.good;simp only[ht,I5]at ll;have hlt:rem (ak [45,62] L.2)<n:=by have:=gm.le;have:=gl.le;omega
     refine⟨⟨g.good,by omega⟩,gl.good,⟨gm.good,hlt⟩,⟨by trivial,by omega⟩,?_⟩;exact Xr
    rw[Hj c]at hG;subst hG;have g:=cQ hi c;have r:=aG hi c;rw[aH c];have gl:=aI (cH (b8 n)) [124] [62] ⟨7,[],[],[],[]⟩ g.good (by omega);refine⟨⟨g.good,by omega⟩,?_⟩;exact Xr
   rw[Hj c]at hG;subst hG;have g:=cQ hi c;have r:=aG hi c;rw[aH c];have gl:=aI (cH (b8 n)) [44] [125] ⟨6,[],[],[],[]⟩ g.good (by omega);refine⟨⟨g.good,by omega⟩,?_⟩;exact Xr
  rw[Hj c]at hG;subst hG;have g:=cQ hi c;have r:=aG hi c;rw[aH c];obtain⟨gb,eb⟩:=b8 n _ g.good (by omega);refine⟨⟨g.good,by omega⟩,gb.good,?_⟩;exact Xr
theorem DM(s:Par) (ho:a8 s) :
  let A:=ag big s;let B:=bg s;let C:=True/\A.1=B.1/\A.2=B.2/\True;a8 s/\(a8 s/\rem s<big)/\if(!aQ A.2)=true then if(!decide (di A.1=(0:Int)))=true then True/\A.1=B.1/\cC (di A.1) (ai s).pos A.2=B.2/\True else C else C:=by
 conv=>zeta
 have hb:rem s<big:=by have:=j8 ho;unfold big;omega
 have g:=(b8 big s ho hb).1.good;unfold bg;dsimp only;generalize ag big s=y at g⊢;refine⟨ho,⟨ho,hb⟩,a6 (fun c=>?_) (fun c=>?_)⟩
 ·have c:¬aQ y.2=true:=by simpa using c
  rw[Hh c];apply a6<;>intro d
  ·have d:¬di y.1=0:=by simpa using d
   rw[Hh d];exact Xr
  ·have d:di y.1=0:=by simpa using d
   rw[Hj d];exact Xr
 ·have c:aQ y.2=true:=by simpa using c
  rw[Hj c];exact Xr
theorem Bj(n:Nat)(x:Trm)(s:Par)(hi:a8 s)(hn:rem s<n)(zn:x.names=[])(zv:x.vars=[])(zs:x.shapes=[])(zp:x.parts=[]) :
  let A:=([]:List Nat);let B:=List.length A=(0:Nat);let C:=a7 n s;(a8 s/\rem s<n)/\(1:Nat)*(152:Nat)<=(140737488355328:Nat)/\(0:Int)=(↑(List.length A):Int)/\B/\B/\B/\True/\x.kind=x.kind/\x.pkg=x.pkg/\x.name=x.name/\x.n=x.n/\[]++[C.1]=x.parts++[C.1]/\x.pos=x.pos/\C.2=C.2/\(0:Nat)+(1:Nat)=List.length (x.parts++[C.1])/\True:=by
 conv=>zeta
 refine⟨⟨hi,hn⟩,?_⟩
 repeat (first|exact trivial|refine⟨by first|rfl|trivial|omega|(simp only[ax,aM,dF,b4,aB,aY,an,bY,aj,Ho,Hm];done)|(simp only[zn];done)|(simp only[zv,Hs];done)|(simp only[zs,Hs];done)|(simp only[zp,Hs];done)|(simp[zs];done)|(simp[zp];done),?_⟩)
theorem Bk(n:Nat)(x:Trm)(s:Par)(hi:a8 s)(hn:rem s<n)(zn:x.names=[])(zv:x.vars=[])(zs:x.shapes=[])(hl:x.parts.length<=100000) :
  let A:=List.length x.parts=List.length x.parts;let B:=(↑(List.length x.parts):Int);let C:=a7 n s;(a8 s/\rem s<n)/\(A/\(List.length x.parts+(1:Nat))*(152:Nat)<=(140737488355328:Nat))/\B=B/\A/\A/\A/\True/\x.kind=x.kind/\x.pkg=x.pkg/\x.name=x.name/\x.n=x.n/\x.parts++[C.1]=x.parts++[C.1]/\x.pos=x.pos/\List.length x.parts+(1:Nat)=List.length (x.parts++[C.1])/\C.2=C.2/\True:=by
 conv=>zeta
 refine⟨⟨hi,hn⟩,⟨by trivial,by omega⟩,?_⟩
 repeat (first|exact trivial|refine⟨by first|rfl|trivial|omega|(simp only[ax,aM,dF,b4,aB,aY,an,bY,aj,Ho,Hm];done)|(simp only[zn];done)|(simp only[zv,Hs];done)|(simp only[zs,Hs];done)|(simp only[zp,Hs];done)|(simp[zs];done)|(simp[zp];done),?_⟩)
theorem yy(n:Nat)(x:Trm)(s:Par)(hi:a8 s)(hn:rem s<n)(zv:x.vars=[])(zp:x.parts=[])(hl:x.names.length+x.shapes.length<=100000) :
  let A:=([]:List Nat);let B:=List.length A=(0:Nat);let C:=a7 n s;(a8 s/\rem s<n)/\(1:Nat)*(152:Nat)<=(140737488355328:Nat)/\(0:Int)=(↑(List.length A):Int)/\B/\B/\B/\True/\x.kind=x.kind/\x.pkg=x.pkg/\x.name=x.name/\x.n=x.n/\x.names=x.names/\x.shapes=x.shapes/\[]++[C.1]=x.parts++[C.1]/\x.pos=x.pos/\List.length x.names=List.length x.names/\List.length x.shapes=List.length x.shapes/\C.2=C.2/\(0:Nat)+(1:Nat)=List.length (x.parts++[C.1])/\True:=by
 conv=>zeta
 refine⟨⟨hi,hn⟩,?_⟩
 repeat (first|exact trivial|refine⟨by first|rfl|trivial|omega|(simp only[ax,aM,dF,b4,aB,aY,an,bY,aj,Ho,Hm];done)|(simp only[zn];done)|(simp only[zv,Hs];done)|(simp only[zs,Hs];done)|(simp only[zp,Hs];done)|(simp[zs];done)|(simp[zp];done),?_⟩)
theorem u9(n:Nat)(x:Trm)(s:Par)(hi:a8 s)(hn:rem s<n)(hl:x.names.length+x.vars.length+x.shapes.length+x.parts.length<=100000) :
  let A:=List.length x.parts=List.length x.parts;let B:=(↑(List.length x.parts):Int);let C:=a7 n s;(a8 s/\rem s<n)/\(A/\(List.length x.parts+(1:Nat))*(152:Nat)<=(140737488355328:Nat))/\B=B/\A/\A/\A/\True/\x.kind=x.kind/\x.pkg=x.pkg/\x.name=x.name/\x.n=x.n/\x.names=x.names/\x.vars=x.vars/\x.shapes=x.shapes/\x.parts++[C.1]=x.parts++[C.1]/\x.pos=x.pos/\List.length x.names=List.length x.names/\List.length x.vars=List.length x.vars/\List.length x.shapes=List.length x.shapes/\List.length x.parts+(1:Nat)=List.length (x.parts++[C.1])/\C.2=C.2/\True:=by
 conv=>zeta
 refine⟨⟨hi,hn⟩,⟨by trivial,by omega⟩,?_⟩
 repeat (first|exact trivial|refine⟨by first|rfl|trivial|omega|(simp only[ax,aM,dF,b4,aB,aY,an,bY,aj,Ho,Hm];done)|(simp only[zn];done)|(simp only[zv,Hs];done)|(simp only[zs,Hs];done)|(simp only[zp,Hs];done)|(simp[zs];done)|(simp[zp];done),?_⟩)
theorem Bl(n:Nat)(x:Trm)(s:Par)(hi:a8 s)(hn:rem s<n)(zn:x.names=[])(zv:x.vars=[])(zs:x.shapes=[])(hl:x.parts.length<=100000) :
  let A:=List.length x.parts=List.length x.parts;let B:=(↑(List.length x.parts):Int);let C:=a7 n s;(a8 s/\rem s<n)/\(A/\(List.length x.parts+(1:Nat))*(152:Nat)<=(140737488355328:Nat))/\B=B/\A/\A/\A/\True/\x.kind=x.kind/\x.pkg=x.pkg/\x.name=x.name/\x.n=x.n/\x.parts++[C.1]=x.parts++[C.1]/\x.pos=x.pos/\List.length x.parts+(1:Nat)=List.length (x.parts++[C.1])/\C.2=C.2/\True:=by
 conv=>zeta
 refine⟨⟨hi,hn⟩,⟨by trivial,by omega⟩,?_⟩
 repeat (first|exact trivial|refine⟨by first|rfl|trivial|omega|(simp only[ax,aM,dF,b4,aB,aY,an,bY,aj,Ho,Hm];done)|(simp only[zn];done)|(simp only[zv,Hs];done)|(simp only[zs,Hs];done)|(simp only[zp,Hs];done)|(simp[zs];done)|(simp[zp];done),?_⟩)
theorem Bm(x:Trm)(a:Str)(s:Par)(hi:a8 s)(zv:x.vars=[])(zp:x.parts=[])(hl:x.names.length+x.shapes.length<=100000) :
  let A:=List.length x.shapes=List.length x.shapes;let B:=(↑(List.length x.shapes):Int);let C:=bg (ak a s);a8 s/\a8 (ak a s)/\(A/\(List.length x.shapes+(1:Nat))*(88:Nat)<=(140737488355328:Nat))/\B=B/\A/\A/\A/\True/\x.kind=x.kind/\x.pkg=x.pkg/\x.name=x.name/\x.n=x.n/\x.names=x.names/\x.shapes++[C.1]=x.shapes++[C.1]/\x.pos=x.pos/\C.2=C.2/\List.length x.names=List.length x.names/\List.length x.shapes+(1:Nat)=List.length (x.shapes++[C.1])/\True:=by
 conv=>zeta
 refine⟨hi,(ba hi).good,?_⟩
 repeat (first|exact trivial|refine⟨by first|rfl|trivial|omega|(simp only[ax,aM,dF,b4,aB,aY,an,bY,aj,Ho,Hm];done)|(simp only[zn];done)|(simp only[zv,Hs];done)|(simp only[zs,Hs];done)|(simp only[zp,Hs];done)|(simp[zs];done)|(simp[zp];done),?_⟩)
theorem DN(x:Trm)(a:Str)(s:Par)(hi:a8 s)(zn:x.names=[])(zv:x.vars=[])(zs:x.shapes=[])(hl:x.parts.length<=100000) :
  let A:=([]:List Nat);let B:=List.length A=(0:Nat);let C:=bg (ak a s);a8 s/\a8 (ak a s)/\(1:Nat)*(88:Nat)<=(140737488355328:Nat)/\(0:Int)=(↑(List.length A):Int)/\B/\B/\B/\True/\x.kind=x.kind/\x.pkg=x.pkg/\x.name=x.name/\x.n=x.n/\[]++[C.1]=x.shapes++[C.1]/\x.parts=x.parts/\x.pos=x.pos/\C.2=C.2/\List.length x.parts=List.length x.parts/\(0:Nat)+(1:Nat)=List.length (x.shapes++[C.1])/\True:=by
 conv=>zeta
 refine⟨hi,(ba hi).good,?_⟩
 repeat (first|exact trivial|refine⟨by first|rfl|trivial|omega|(simp only[ax,aM,dF,b4,aB,aY,an,bY,aj,Ho,Hm];done)|(simp only[zn];done)|(simp only[zv,Hs];done)|(simp only[zs,Hs];done)|(simp only[zp,Hs];done)|(simp[zs];done)|(simp[zp];done),?_⟩)
theorem w5(x:Trm)(a:Str)(s:Par)(hi:a8 s)(hl:x.names.length+x.vars.length+x.shapes.length+x.parts.length<=100000) :
  let A:=List.length x.shapes=List.length x.shapes;let B:=(↑(List.length x.shapes):Int);let C:=bg (ak a s);a8 s/\a8 (ak a s)/\(A/\(List.length x.shapes+(1:Nat))*(88:Nat)<=(140737488355328:Nat))/\B=B/\A/\A/\A/\True/\x.kind=x.kind/\x.pkg=x.pkg/\x.name=x.name/\x.n=x.n/\x.names=x.names/\x.vars=x.vars/\x.shapes++[C.1]=x.shapes++[C.1]/\x.parts=x.parts/\x.pos=x.pos/\C.2=C.2/\List.length x.names=List.length x.names/\List.length x.vars=List.length x.vars/\List.length x.shapes+(1:Nat)=List.length (x.shapes++[C.1])/\List.length x.parts=List.length x.parts/\True:=by
 conv=>zeta
 refine⟨hi,(ba hi).good,?_⟩
 repeat (first|exact trivial|refine⟨by first|rfl|trivial|omega|(simp only[ax,aM,dF,b4,aB,aY,an,bY,aj,Ho,Hm];done)|(simp only[zn];done)|(simp only[zv,Hs];done)|(simp only[zs,Hs];done)|(simp only[zp,Hs];done)|(simp[zs];done)|(simp[zp];done),?_⟩)
theorem DO(n:Nat)(x:Trm)(s:Par)(hi:a8 s)(h0:s.err=0)(hn:rem s<=n)(zv:x.vars=[])(zs:x.shapes=[])(hl:x.names.length+x.parts.length<=100000) :
  let A:=aJ x.names s;let B:=(140737488355328:Nat);let C:=(ak ([61]:Str) A.2);let D:=List.length x.parts=List.length x.parts;let E:=(↑(List.length x.parts):Int);let F:=aj (a7 n) x s;let G:=[(a7 n C).1];let H:=aY x A.1;a8 s/\(List.length x.names=List.length x.names/\(List.length x.names+List.length [A.1])*(16:Nat)<=B)/\a8 A.2/\(a8 C/\rem C<n)/\(D/\(List.length x.parts+(1:Nat))*(152:Nat)<=B)/\E=E/\D/\D/\D/\True/\x.kind=F.1.kind/\x.pkg=F.1.pkg/\x.name=F.1.name/\x.n=F.1.n/\x.names++[A.1]=F.1.names/\x.parts++G=H.parts++G/\x.pos=F.1.pos/\List.length (x.names++[A.1])=List.length F.1.names/\List.length x.parts+(1:Nat)=List.length (H.parts++G)/\(a7 n C).2=F.2/\True:=by
 conv=>zeta
 have m1:=bN (ns:=x.names) hi;have m2:=m1.then (ae (t:=[61]) m1.good);have hlt:=m2.lt hn h0;refine⟨hi,⟨by trivial,by simp only[Hm];omega⟩,m1.good,⟨m2.good,hlt⟩,⟨by trivial,by omega⟩,?_⟩
 repeat (first|exact trivial|refine⟨by first|rfl|trivial|omega|(simp only[ax,aM,dF,b4,aB,aY,an,bY,aj,Ho,Hm];done)|(simp only[zn];done)|(simp only[zv,Hs];done)|(simp only[zs,Hs];done)|(simp only[zp,Hs];done)|(simp[zs];done)|(simp[zp];done),?_⟩)
theorem GD(x:Trm)(s:Par)(hi:a8 s)(zv:x.vars=[])(zp:x.parts=[])(hl:x.names.length+x.shapes.length<=90000) :
  let A:=aJ x.names s;let B:=x.names++[A.1];let C:=aB x s;let D:=(bg (ak ([58]:Str) A.2));let E:=[D.1];let F:=aY x A.1;a8 s/\(List.length x.names=List.length x.names/\(List.length x.names+List.length [A.1])*(16:Nat)<=(140737488355328:Nat))/\(a8 A.2/\List.length B=List.length B/\List.length x.shapes=List.length x.shapes/\List.length B+List.length x.shapes<=(100000:Nat))/\True/\x.kind=C.1.kind/\x.pkg=C.1.pkg/\x.name=C.1.name/\x.n=C.1.n/\x.names++[A.1]=C.1.names/\x.shapes++E=F.shapes++E/\x.pos=C.1.pos/\List.length B=List.length C.1.names/\List.length (x.shapes++E)=List.length (F.shapes++E)/\D.2=C.2/\True:=by
 conv=>zeta
 have m1:=bN (ns:=x.names) hi;have m2:=ae (t:=[58]) m1.good;refine⟨hi,⟨by trivial,by simp only[Hm];omega⟩,⟨m1.good,by trivial,by trivial,by simp only[Ho,Hm];omega⟩,?_⟩
 repeat (first|exact trivial|refine⟨by first|rfl|trivial|omega|(simp only[ax,aM,dF,b4,aB,aY,an,bY,aj,Ho,Hm];done)|(simp only[zn];done)|(simp only[zv,Hs];done)|(simp only[zs,Hs];done)|(simp only[zp,Hs];done)|(simp[zs];done)|(simp[zp];done),?_⟩)
theorem GF(n:Nat)(x:Trm)(s:Par)(hi:a8 s)(h0:s.err=0)(hn:rem s<=n)(hl:x.names.length+x.vars.length+x.shapes.length+x.parts.length<=90000) :
  let A:=aJ x.names s;let B:=(140737488355328:Nat);let C:=(ak ([40]:Str) A.2);let D:=(aE (1:Int) C);let E:=[D.1.text];let F:=x.names++[A.1];let G:=List.length F=List.length F;let H:=x.vars++E;let I:=List.length H=List.length H;let J:=List.length x.parts=List.length x.parts;let K:=(100000:Nat);let L:=(bg (ak ([58]:Str) D.2));let M:=(ak ([41]:Str) L.2);let N:=([45,62]:Str);let O:=ak N M;let P:=x.shapes++[L.1];let Q:=an (a7 n) x s;let R:=[(a7 n O).1];let S:=(dF ([58]:Str) (bY (aY x A.1) D.1.text) D.2);let T:=[(a7 n (ak N (ak ([41]:Str) S.2))).1];a8 s/\(List.length x.names=List.length x.names/\(List.length x.names+List.length [A.1])*(16:Nat)<=B)/\a8 A.2/\(a8 C/\¬(1:Int)=(0:Int))/\(List.length x.vars=List.length x.vars/\(List.length x.vars+List.length E)*(16:Nat)<=B)/\(a8 D.2/\G/\I/\List.length x.shapes=List.length x.shapes/\J/\List.length F+List.length H+List.length x.shapes+List.length x.parts<=K)/\a8 L.2/\a8 M/\(a8 O/\rem O<n/\G/\I/\List.length P=List.length P/\J/\List.length F+List.length H+List.length P+List.length x.parts<=K)/\True/\x.kind=Q.1.kind/\x.pkg=Q.1.pkg/\x.name=Q.1.name/\x.n=Q.1.n/\x.names++[A.1]=Q.1.names/\x.vars++E=Q.1.vars/\x.shapes++[L.1]=Q.1.shapes/\x.parts++R=S.1.parts++T/\x.pos=Q.1.pos/\List.length F=List.length Q.1.names/\List.length H=List.length Q.1.vars/\List.length P=List.length Q.1.shapes/\List.length (x.parts++R)=List.length (S.1.parts++T)/\(a7 n O).2=Q.2/\True:=by
 conv=>zeta
 have m1:=bN (ns:=x.names) hi;have m2:=m1.then (ae (t:=[40]) m1.good);have m3:=m2.then (aO (k:=1) m2.good (by decide));have m4:=m3.then ((ae (t:=[58]) m3.good).then (dK (ae (t:=[58]) m3.good).good));have m5:=m4.then (ae (t:=[41]) m4.good);have m6:=m5.then (ae (t:=[45,62]) m5.good);have hlt:=m6.lt hn h0
 refine⟨hi,⟨by trivial,by simp only[Hm];omega⟩,m1.good,⟨m2.good,by decide⟩,⟨by trivial,by simp only[Hm];omega⟩,
  ⟨m3.good,by trivial,by trivial,by trivial,by trivial,by simp only[Ho,Hm];omega⟩,m4.good,m5.good,
  ⟨m6.good,hlt,by trivial,by trivial,by trivial,by trivial,by simp only[Ho,Hm];omega⟩,?_⟩
 repeat (first|exact trivial|refine⟨by first|rfl|trivial|omega|(simp only[ax,aM,dF,b4,aB,aY,an,bY,aj,Ho,Hm];done)|(simp only[zn];done)|(simp only[zv,Hs];done)|(simp only[zs,Hs];done)|(simp only[zp,Hs];done)|(simp[zs];done)|(simp[zp];done),?_⟩)
theorem DP(n:Nat)(s:Par) (ho:a8 s/\rem (ak [40] s)<n) :
  let A:=(ak ([40]:Str) s);let B:=a7 n A;let C:=bP (a7 n) s;a8 s/\(a8 A/\rem A<n)/\a8 B.2/\True/\[B.1]=C.1/\ak ([41]:Str) B.2=C.2/\True:=by
 conv=>zeta
 have m1:=ae (t:=[40]) ho.1;have m2:=cD n _ m1.good ho.2;refine⟨ho.1,⟨m1.good,ho.2⟩,m2.1.good,?_⟩
 repeat (first|exact trivial|refine⟨by first|rfl|trivial|omega|(simp only[ax,aM,dF,b4,aB,aY,an,bY,aj,Ho,Hm];done)|(simp only[zn];done)|(simp only[zv,Hs];done)|(simp only[zs,Hs];done)|(simp only[zp,Hs];done)|(simp[zs];done)|(simp[zp];done),?_⟩)
theorem Fq(n:Nat)(k pp z:Int)(g q:Str)(b e:Str)(s:Par)(hi:a8 s)(hn:rem s<=n) :
  let A:=True;let B:=(ab b e aB {kind:=k,pkg:=g,name:=q,n:=z,names:=[],vars:=[],shapes:=[],parts:=[],pos:=pp:Trm} s);let C:=(0:Nat);let D:=(5000:Nat);let E:=([58]:Str);a8 s/\if isF e s=true then A/\cw e s=B.2/\k=B.1.kind/\g=B.1.pkg/\q=B.1.name/\z=B.1.n/\B.1.names=[]/\B.1.shapes=[]/\pp=B.1.pos/\List.length B.1.names=C/\List.length B.1.shapes=C/\A else(∃(x:Nat×Trm×Par),(a8 x.2.2/\rem x.2.2<x.1/\rem x.2.2<=n/\List.length x.2.1.names+x.1<=D/\List.length x.2.1.shapes+x.1<=D/\x.2.1.vars=[]/\x.2.1.parts=[]/\aX b e aB x.1 x.2.1 x.2.2=ab b e aB {kind:=k,pkg:=g,name:=q,n:=z,names:=[],vars:=[],shapes:=[],parts:=[],pos:=pp:Trm} s)/\b=b/\e=e/\false=false/\cw e s=x.2.2/\k=x.2.1.kind/\g=x.2.1.pkg/\q=x.2.1.name/\z=x.2.1.n/\x.2.1.names=[]/\x.2.1.shapes=[]/\pp=x.2.1.pos/\List.length x.2.1.names=C/\List.length x.2.1.shapes=C/\A)/\∀(x:Nat×Trm×Par),let F:=a8 x.2.2;let G:=(aB {kind:=x.2.1.kind,pkg:=x.2.1.pkg,name:=x.2.1.name,n:=x.2.1.n,names:=x.2.1.names,vars:=[],shapes:=x.2.1.shapes,parts:=[],pos:=x.2.1.pos:Trm} x.2.2);let H:=aJ x.2.1.names x.2.2;let I:=(aY {kind:=x.2.1.kind,pkg:=x.2.1.pkg,name:=x.2.1.name,n:=x.2.1.n,names:=x.2.1.names,vars:=[],shapes:=x.2.1.shapes,parts:=[],pos:=x.2.1.pos:Trm} H.1);let J:=[(bg (ak E H.2)).1];let K:=I.shapes++J;let L:=cw e G.2;F/\rem x.2.2<x.1/\rem x.2.2<=n/\List.length x.2.1.names+x.1<=D/\List.length x.2.1.shapes+x.1<=D/\x.2.1.vars=[]/\x.2.1.parts=[]/\aX b e aB x.1 x.2.1 x.2.2=ab b e aB {kind:=k,pkg:=g,name:=q,n:=z,names:=[],vars:=[],shapes:=[],parts:=[],pos:=pp:Trm} s->if(!aQ x.2.2)=true then(F/\List.length x.2.1.names=List.length x.2.1.names/\List.length x.2.1.shapes=List.length x.2.1.shapes/\List.length x.2.1.names+List.length x.2.1.shapes<=(90000:Nat))/\a8 G.2/\if isF e G.2=true then A/\cw e G.2=B.2/\G.1.kind=B.1.kind/\G.1.pkg=B.1.pkg/\G.1.name=B.1.name/\G.1.n=B.1.n/\G.1.names=B.1.names/\I.shapes++J=B.1.shapes/\G.1.pos=B.1.pos/\List.length G.1.names=List.length B.1.names/\List.length K=List.length B.1.shapes/\A else a8 L/\∃(y:Nat×Trm×Par),(a8 y.2.2/\rem y.2.2<y.1/\rem y.2.2<=n/\List.length y.2.1.names+y.1<=D/\List.length y.2.1.shapes+y.1<=D/\y.2.1.vars=[]/\y.2.1.parts=[]/\aX b e aB y.1 y.2.1 y.2.2=ab b e aB {kind:=k,pkg:=g,name:=q,n:=z,names:=[],vars:=[],shapes:=[],parts:=[],pos:=pp:Trm} s)/\y.1<x.1/\b=b/\e=e/\false=false/\ak b L=y.2.2/\G.1.kind=y.2.1.kind/\G.1.pkg=y.2.1.pkg/\G.1.name=y.2.1.name/\G.1.n=y.2.1.n/\G.1.names=y.2.1.names/\I.shapes++J=y.2.1.shapes/\G.1.pos=y.2.1.pos/\List.length G.1.names=List.length y.2.1.names/\List.length K=List.length y.2.1.shapes/\A else A/\x.2.2=B.2/\x.2.1.kind=B.1.kind/\x.2.1.pkg=B.1.pkg/\x.2.1.name=B.1.name/\x.2.1.n=B.1.n/\x.2.1.names=B.1.names/\x.2.1.shapes=B.1.shapes/\x.2.1.pos=B.1.pos/\List.length x.2.1.names=List.length B.1.names/\List.length x.2.1.shapes=List.length B.1.shapes/\A:=by
 conv=>zeta
 have hl:=hi.2.2.1;have hF:ab b e (aB) ⟨k,g,q,z,[],[],[],[],pp⟩ s=if isF e s=true then(⟨k,g,q,z,[],[],[],[],pp⟩,au s)else aX b e (aB) (s.toks.length+2) ⟨k,g,q,z,[],[],[],[],pp⟩ s:=rfl
 have hrd:dn (aB) n:=dW n;generalize ab b e (aB) ⟨k,g,q,z,[],[],[],[],pp⟩ s=fin at hF⊢;refine⟨hi,a6 (fun h=>?_) (fun h=>?_)⟩
 ·rw[Hj h]at hF;subst hF;refine⟨trivial,aH h,?_⟩;exact Xr
 ·rw[Hh h]at hF;have h:isF e s=false:=by simpa using h
  rw[aR h];refine⟨⟨(s.toks.length+2,⟨k,g,q,z,[],[],[],[],pp⟩,s),⟨hi,by show rem s<_;have h1:=hi.1;have h2:=hi.2.1;unfold rem;split<;>omega,hn,by show 0+_<=_;omega,by show 0+_<=_;omega,rfl,rfl,hF.symm⟩,?_⟩,?_⟩
  ·exact Xr
  rintro⟨j,x,s1⟩ ⟨i1,i2,i3,ln,ls,kv,kp,i6⟩;simp only at i1 i2 i3 ln ls kv kp i6⊢;have ex:(⟨x.kind,x.pkg,x.name,x.n,x.names,[],x.shapes,[],x.pos⟩:Trm)=x:=by cases x;simp_all
  try rw[ex]
  apply a6<;>intro hb
  ·have h0:s1.err=0:=bf.1 (by simpa using hb);obtain⟨j,rfl⟩:∃m,j=m+1:=⟨j-1,by omega⟩;have hp:=bA h0;obtain⟨gg,ea⟩:=hrd x s1 i1 h0 (by omega);have hbf:¬aQ s1=true:=by simp[aQ,h0]
   simp only[aX,Hh hbf]at i6;refine⟨⟨i1,by trivial,by trivial,by omega⟩,gg.good,a6 (fun c=>?_) (fun c=>?_)⟩
   ·rw[Hj c]at i6;subst i6;refine⟨trivial,aH c,?_⟩;exact Xr
   ·have c:isF e (aB x s1).2=false:=by simpa using c
    rw[Hh (by simp[c])]at i6;rw[aR c];obtain⟨n1,n2,n3,n4⟩:=eY hrd (btw:=b) (en:=e) (x:=x) i1 h0 (by omega) i2;refine⟨gg.good,(j,(aB x s1).1,ak b (aB x s1).2),⟨n1,n4,n3,by show(x.names++[_]).length+j<=5000;simp only[Ho,Hm];omega,by show(x.shapes++[_]).length+j<=5000;simp only[Ho,Hm];omega,kv,kp,i6⟩,by show j<j+1;omega,?_⟩;exact Xr
  ·have h0:¬s1.err=0:=b7.1 (by simpa using hb);have hbf:aQ s1=true:=b7.2 h0
   have:(x,s1)=fin:=by
    rw[<-i6]
    cases j with|zero=>rfl|succ j=>simp only[aX,Hj hbf]
   subst this;refine⟨trivial,rfl,?_⟩;exact Xr
theorem Fs(n:Nat)(k pp z:Int)(g q:Str)(us:List Trm)(b e:Str)(s:Par)(hi:a8 s)(hn:rem s<=n)(hu:us.length<=1) :
  let A:=True;let B:=a7 n;let C:=an B;let D:=(ab b e C {kind:=k,pkg:=g,name:=q,n:=z,names:=[],vars:=[],shapes:=[],parts:=us,pos:=pp:Trm} s);let E:=(0:Nat);let F:=(5000:Nat);let G:=([58]:Str);let H:=(1:Int);let I:=([40]:Str);let J:=([45,62]:Str);let K:=([41]:Str);a8 s/\if isF e s=true then A/\cw e s=D.2/\k=D.1.kind/\g=D.1.pkg/\q=D.1.name/\z=D.1.n/\D.1.names=[]/\D.1.vars=[]/\D.1.shapes=[]/\us=D.1.parts/\pp=D.1.pos/\List.length us=List.length D.1.parts/\List.length D.1.names=E/\List.length D.1.vars=E/\List.length D.1.shapes=E/\A else(∃(x:Nat×Trm×Par),(a8 x.2.2/\rem x.2.2<x.1/\rem x.2.2<=n/\List.length x.2.1.names+x.1<=F/\List.length x.2.1.vars+x.1<=F/\List.length x.2.1.shapes+x.1<=F/\List.length x.2.1.parts+x.1<=F/\aX b e C x.1 x.2.1 x.2.2=ab b e C {kind:=k,pkg:=g,name:=q,n:=z,names:=[],vars:=[],shapes:=[],parts:=us,pos:=pp:Trm} s)/\b=b/\e=e/\false=false/\cw e s=x.2.2/\k=x.2.1.kind/\g=x.2.1.pkg/\q=x.2.1.name/\z=x.2.1.n/\x.2.1.names=[]/\x.2.1.vars=[]/\x.2.1.shapes=[]/\us=x.2.1.parts/\pp=x.2.1.pos/\List.length x.2.1.names=E/\List.length x.2.1.vars=E/\List.length x.2.1.shapes=E/\List.length us=List.length x.2.1.parts/\A)/\∀(x:Nat×Trm×Par),let L:=a8 x.2.2;let M:=rem x.2.2<=n;let N:=an B x.2.1 x.2.2;let O:=aJ x.2.1.names x.2.2;let P:=aE H (ak I O.2);let Q:=dF G (bY (aY x.2.1 O.1) P.1.text) P.2;let R:=[(a7 n (ak J (ak K Q.2))).1];let S:=Q.1.parts++R;let T:=cw e N.2;L/\rem x.2.2<x.1/\M/\List.length x.2.1.names+x.1<=F/\List.length x.2.1.vars+x.1<=F/\List.length x.2.1.shapes+x.1<=F/\List.length x.2.1.parts+x.1<=F/\aX b e C x.1 x.2.1 x.2.2=ab b e C {kind:=k,pkg:=g,name:=q,n:=z,names:=[],vars:=[],shapes:=[],parts:=us,pos:=pp:Trm} s->if(!aQ x.2.2)=true then(L/\x.2.2.err=(0:Int)/\M/\List.length x.2.1.names=List.length x.2.1.names/\List.length x.2.1.vars=List.length x.2.1.vars/\List.length x.2.1.shapes=List.length x.2.1.shapes/\List.length x.2.1.parts=List.length x.2.1.parts/\List.length x.2.1.names+List.length x.2.1.vars+List.length x.2.1.shapes+List.length x.2.1.parts<=(90000:Nat))/\a8 N.2/\if isF e N.2=true then A/\cw e N.2=D.2/\N.1.kind=D.1.kind/\N.1.pkg=D.1.pkg/\N.1.name=D.1.name/\N.1.n=D.1.n/\N.1.names=D.1.names/\N.1.vars=D.1.vars/\N.1.shapes=D.1.shapes/\Q.1.parts++R=D.1.parts/\N.1.pos=D.1.pos/\List.length S=List.length D.1.parts/\List.length N.1.names=List.length D.1.names/\List.length N.1.vars=List.length D.1.vars/\List.length N.1.shapes=List.length D.1.shapes/\A else a8 T/\∃(y:Nat×Trm×Par),(a8 y.2.2/\rem y.2.2<y.1/\rem y.2.2<=n/\List.length y.2.1.names+y.1<=F/\List.length y.2.1.vars+y.1<=F/\List.length y.2.1.shapes+y.1<=F/\List.length y.2.1.parts+y.1<=F/\aX b e C y.1 y.2.1 y.2.2=ab b e C {kind:=k,pkg:=g,name:=q,n:=z,names:=[],vars:=[],shapes:=[],parts:=us,pos:=pp:Trm} s)/\y.1<x.1/\b=b/\e=e/\false=false/\ak b T=y.2.2/\N.1.kind=y.2.1.kind/\N.1.pkg=y.2.1.pkg/\N.1.name=y.2.1.name/\N.1.n=y.2.1.n/\N.1.names=y.2.1.names/\N.1.vars=y.2.1.vars/\N.1.shapes=y.2.1.shapes/\Q.1.parts++R=y.2.1.parts/\N.1.pos=y.2.1.pos/\List.length N.1.names=List.length y.2.1.names/\List.length N.1.vars=List.length y.2.1.vars/\List.length N.1.shapes=List.length y.2.1.shapes/\List.length S=List.length y.2.1.parts/\A else A/\x.2.2=D.2/\x.2.1.kind=D.1.kind/\x.2.1.pkg=D.1.pkg/\x.2.1.name=D.1.name/\x.2.1.n=D.1.n/\x.2.1.names=D.1.names/\x.2.1.vars=D.1.vars/\x.2.1.shapes=D.1.shapes/\x.2.1.parts=D.1.parts/\x.2.1.pos=D.1.pos/\List.length x.2.1.parts=List.length D.1.parts/\List.length x.2.1.names=List.length D.1.names/\List.length x.2.1.vars=List.length D.1.vars/\List.length x.2.1.shapes=List.length D.1.shapes/\A:=by
 conv=>zeta
 have hl:=hi.2.2.1;have hF:ab b e (an (a7 n)) ⟨k,g,q,z,[],[],[],us,pp⟩ s=if isF e s=true then(⟨k,g,q,z,[],[],[],us,pp⟩,au s)else aX b e (an (a7 n)) (s.toks.length+2) ⟨k,g,q,z,[],[],[],us,pp⟩ s:=rfl
 have hrd:dn (an (a7 n)) n:=eI (cD n);generalize ab b e (an (a7 n)) ⟨k,g,q,z,[],[],[],us,pp⟩ s=fin at hF⊢;refine⟨hi,a6 (fun h=>?_) (fun h=>?_)⟩
 ·rw[Hj h]at hF;subst hF;refine⟨trivial,aH h,?_⟩;exact Xr
 ·rw[Hh h]at hF;have h:isF e s=false:=by simpa using h
  rw[aR h];refine⟨⟨(s.toks.length+2,⟨k,g,q,z,[],[],[],us,pp⟩,s),⟨hi,by show rem s<_;have h1:=hi.1;have h2:=hi.2.1;unfold rem;split<;>omega,hn,by show 0+_<=_;omega,by show 0+_<=_;omega,by show 0+_<=_;omega,by show us.length+_<=_;omega,hF.symm⟩,?_⟩,?_⟩
  ·exact Xr
  rintro⟨j,x,s1⟩ ⟨i1,i2,i3,ln,lv,ls,lp,i6⟩;simp only at i1 i2 i3 ln lv ls lp i6⊢;have ex:(⟨x.kind,x.pkg,x.name,x.n,x.names,x.vars,x.shapes,x.parts,x.pos⟩:Trm)=x:=by cases x;simp_all
  try rw[ex]
  apply a6<;>intro hb
  ·have h0:s1.err=0:=bf.1 (by simpa using hb);obtain⟨j,rfl⟩:∃m,j=m+1:=⟨j-1,by omega⟩;have hp:=bA h0;obtain⟨gg,ea⟩:=hrd x s1 i1 h0 (by omega);have hbf:¬aQ s1=true:=by simp[aQ,h0]
   simp only[aX,Hh hbf]at i6;refine⟨⟨i1,h0,i3,by trivial,by trivial,by trivial,by trivial,by omega⟩,gg.good,a6 (fun c=>?_) (fun c=>?_)⟩
   ·rw[Hj c]at i6;subst i6;refine⟨trivial,aH c,?_⟩;exact Xr
   ·have c:isF e (an (a7 n) x s1).2=false:=by simpa using c
    rw[Hh (by simp[c])]at i6;rw[aR c];obtain⟨n1,n2,n3,n4⟩:=eY hrd (btw:=b) (en:=e) (x:=x) i1 h0 (by omega) i2;refine⟨gg.good,(j,(an (a7 n) x s1).1,ak b (an (a7 n) x s1).2),⟨n1,n4,n3,by show(x.names++[_]).length+j<=5000;simp only[Ho,Hm];omega,by show(x.vars++[_]).length+j<=5000;simp only[Ho,Hm];omega,by show(x.shapes++[_]).length+j<=5000;simp only[Ho,Hm];omega,by show(x.parts++[_]).length+j<=5000;simp only[Ho,Hm];omega,i6⟩,by show j<j+1;omega,?_⟩;exact Xr
  ·have h0:¬s1.err=0:=b7.1 (by simpa using hb);have hbf:aQ s1=true:=b7.2 h0
   have:(x,s1)=fin:=by
    rw[<-i6]
    cases j with|zero=>rfl|succ j=>simp only[aX,Hj hbf]
   subst this;refine⟨trivial,rfl,?_⟩;exact Xr
theorem DQ(n:Nat)(k pp z:Int)(g q:Str)(b e:Str)(s:Par)(hi:a8 s)(hn:rem s<n) :
  let A:=True;let B:=ax (a7 n);let C:=(ab b e B {kind:=k,pkg:=g,name:=q,n:=z,names:=[],vars:=[],shapes:=[],parts:=[],pos:=pp:Trm} s);let D:=(5000:Nat);a8 s/\if isF e s=true then A/\cw e s=C.2/\k=C.1.kind/\g=C.1.pkg/\q=C.1.name/\z=C.1.n/\C.1.parts=[]/\pp=C.1.pos/\List.length C.1.parts=(0:Nat)/\A else(∃(x:Nat×Trm×Par),(a8 x.2.2/\rem x.2.2<x.1/\rem x.2.2<n/\List.length x.2.1.parts+x.1<=D/\x.2.1.names=[]/\x.2.1.vars=[]/\x.2.1.shapes=[]/\aX b e B x.1 x.2.1 x.2.2=ab b e B {kind:=k,pkg:=g,name:=q,n:=z,names:=[],vars:=[],shapes:=[],parts:=[],pos:=pp:Trm} s)/\b=b/\e=e/\false=false/\cw e s=x.2.2/\k=x.2.1.kind/\g=x.2.1.pkg/\q=x.2.1.name/\z=x.2.1.n/\x.2.1.parts=[]/\pp=x.2.1.pos/\List.length x.2.1.parts=(0:Nat)/\A)/\∀(x:Nat×Trm×Par),let E:=a8 x.2.2;let F:=rem x.2.2<n;let G:=a7 n x.2.2;let H:=x.2.1.kind=C.1.kind;let I:=x.2.1.pkg=C.1.pkg;let J:=x.2.1.name=C.1.name;let K:=x.2.1.n=C.1.n;let L:=x.2.1.pos=C.1.pos;let M:=x.2.1.parts++[G.1];let N:=cw e G.2;E/\rem x.2.2<x.1/\F/\List.length x.2.1.parts+x.1<=D/\x.2.1.names=[]/\x.2.1.vars=[]/\x.2.1.shapes=[]/\aX b e B x.1 x.2.1 x.2.2=ab b e B {kind:=k,pkg:=g,name:=q,n:=z,names:=[],vars:=[],shapes:=[],parts:=[],pos:=pp:Trm} s->if(!aQ x.2.2)=true then(E/\F/\List.length x.2.1.parts=List.length x.2.1.parts/\List.length x.2.1.parts<=(100000:Nat))/\a8 G.2/\if isF e G.2=true then A/\cw e G.2=C.2/\H/\I/\J/\K/\x.2.1.parts++[G.1]=C.1.parts/\L/\List.length M=List.length C.1.parts/\A else a8 N/\∃(y:Nat×Trm×Par),(a8 y.2.2/\rem y.2.2<y.1/\rem y.2.2<n/\List.length y.2.1.parts+y.1<=D/\y.2.1.names=[]/\y.2.1.vars=[]/\y.2.1.shapes=[]/\aX b e B y.1 y.2.1 y.2.2=ab b e B {kind:=k,pkg:=g,name:=q,n:=z,names:=[],vars:=[],shapes:=[],parts:=[],pos:=pp:Trm} s)/\y.1<x.1/\b=b/\e=e/\false=false/\ak b N=y.2.2/\x.2.1.kind=y.2.1.kind/\x.2.1.pkg=y.2.1.pkg/\x.2.1.name=y.2.1.name/\x.2.1.n=y.2.1.n/\x.2.1.parts++[G.1]=y.2.1.parts/\x.2.1.pos=y.2.1.pos/\List.length M=List.length y.2.1.parts/\A else A/\x.2.2=C.2/\H/\I/\J/\K/\x.2.1.parts=C.1.parts/\L/\List.length x.2.1.parts=List.length C.1.parts/\A:=by
 conv=>zeta
 have hl:=hi.2.2.1;have hF:ab b e (ax (a7 n)) ⟨k,g,q,z,[],[],[],[],pp⟩ s=if isF e s=true then(⟨k,g,q,z,[],[],[],[],pp⟩,au s)else aX b e (ax (a7 n)) (s.toks.length+2) ⟨k,g,q,z,[],[],[],[],pp⟩ s:=rfl
 have hrd:dn (ax (a7 n)) (n-1):=bC (by rw[Im (by omega)];exact cD n);generalize ab b e (ax (a7 n)) ⟨k,g,q,z,[],[],[],[],pp⟩ s=fin at hF⊢;refine⟨hi,a6 (fun h=>?_) (fun h=>?_)⟩
 ·rw[Hj h]at hF;subst hF;refine⟨trivial,aH h,?_⟩;exact Xr
 ·rw[Hh h]at hF;have h:isF e s=false:=by simpa using h
  rw[aR h];refine⟨⟨(s.toks.length+2,⟨k,g,q,z,[],[],[],[],pp⟩,s),⟨hi,by show rem s<_;have h1:=hi.1;have h2:=hi.2.1;unfold rem;split<;>omega,hn,by show 0+_<=_;omega,rfl,rfl,rfl,hF.symm⟩,?_⟩,?_⟩
  ·exact Xr
  rintro⟨j,x,s1⟩ ⟨i1,i2,i3,lp,kn,kv,ks,i6⟩;simp only at i1 i2 i3 lp kn kv ks i6⊢;have ex:(⟨x.kind,x.pkg,x.name,x.n,[],[],[],x.parts,x.pos⟩:Trm)=x:=by cases x;simp_all
  try rw[ex]
  rw[show(a7 n s1).2=(ax (a7 n) x s1).2 from rfl];apply a6<;>intro hb
  ·have h0:s1.err=0:=bf.1 (by simpa using hb);obtain⟨j,rfl⟩:∃m,j=m+1:=⟨j-1,by omega⟩;have hp:=bA h0;obtain⟨gg,ea⟩:=hrd x s1 i1 h0 (by omega);have hbf:¬aQ s1=true:=by simp[aQ,h0]
   simp only[aX,Hh hbf]at i6;refine⟨⟨i1,i3,by trivial,by omega⟩,gg.good,a6 (fun c=>?_) (fun c=>?_)⟩
   ·rw[Hj c]at i6;subst i6;refine⟨trivial,aH c,?_⟩;exact Xr
   ·have c:isF e (ax (a7 n) x s1).2=false:=by simpa using c
    rw[Hh (by simp[c])]at i6;rw[aR c];obtain⟨n1,n2,n3,n4⟩:=eY hrd (btw:=b) (en:=e) (x:=x) i1 h0 (by omega) i2;refine⟨gg.good,(j,(ax (a7 n) x s1).1,ak b (ax (a7 n) x s1).2),⟨n1,n4,by show rem (ak b _)<n;omega,by show(x.parts++[_]).length+j<=5000;simp only[Ho,Hm];omega,kn,kv,ks,i6⟩,by show j<j+1;omega,?_⟩;exact Xr
  ·have h0:¬s1.err=0:=b7.1 (by simpa using hb);have hbf:aQ s1=true:=b7.2 h0
   have:(x,s1)=fin:=by
    rw[<-i6]
    cases j with|zero=>rfl|succ j=>simp only[aX,Hj hbf]
   subst this;refine⟨trivial,rfl,?_⟩;exact Xr
theorem Bn(n:Nat)(k pp z:Int)(g q:Str)(b e:Str)(s:Par)(hi:a8 s)(hn:rem s<=n) :
  let A:=True;let B:=a7 n;let C:=aj B;let D:=(ab b e C {kind:=k,pkg:=g,name:=q,n:=z,names:=[],vars:=[],shapes:=[],parts:=[],pos:=pp:Trm} s);let E:=(0:Nat);let F:=(5000:Nat);let G:=([61]:Str);a8 s/\if isF e s=true then A/\cw e s=D.2/\k=D.1.kind/\g=D.1.pkg/\q=D.1.name/\z=D.1.n/\D.1.names=[]/\D.1.parts=[]/\pp=D.1.pos/\List.length D.1.names=E/\List.length D.1.parts=E/\A else(∃(x:Nat×Trm×Par),(a8 x.2.2/\rem x.2.2<x.1/\rem x.2.2<=n/\List.length x.2.1.names+x.1<=F/\List.length x.2.1.parts+x.1<=F/\x.2.1.vars=[]/\x.2.1.shapes=[]/\aX b e C x.1 x.2.1 x.2.2=ab b e C {kind:=k,pkg:=g,name:=q,n:=z,names:=[],vars:=[],shapes:=[],parts:=[],pos:=pp:Trm} s)/\b=b/\e=e/\false=false/\cw e s=x.2.2/\k=x.2.1.kind/\g=x.2.1.pkg/\q=x.2.1.name/\z=x.2.1.n/\x.2.1.names=[]/\x.2.1.parts=[]/\pp=x.2.1.pos/\List.length x.2.1.names=E/\List.length x.2.1.parts=E/\A)/\∀(x:Nat×Trm×Par),let H:=a8 x.2.2;let I:=rem x.2.2<=n;let J:=(aj B {kind:=x.2.1.kind,pkg:=x.2.1.pkg,name:=x.2.1.name,n:=x.2.1.n,names:=x.2.1.names,vars:=[],shapes:=[],parts:=x.2.1.parts,pos:=x.2.1.pos:Trm} x.2.2);let K:=aJ x.2.1.names x.2.2;let L:=(aY {kind:=x.2.1.kind,pkg:=x.2.1.pkg,name:=x.2.1.name,n:=x.2.1.n,names:=x.2.1.names,vars:=[],shapes:=[],parts:=x.2.1.parts,pos:=x.2.1.pos:Trm} K.1);let M:=[(a7 n (ak G K.2)).1];let N:=L.parts++M;let O:=cw e J.2;H/\rem x.2.2<x.1/\I/\List.length x.2.1.names+x.1<=F/\List.length x.2.1.parts+x.1<=F/\x.2.1.vars=[]/\x.2.1.shapes=[]/\aX b e C x.1 x.2.1 x.2.2=ab b e C {kind:=k,pkg:=g,name:=q,n:=z,names:=[],vars:=[],shapes:=[],parts:=[],pos:=pp:Trm} s->if(!aQ x.2.2)=true then(H/\x.2.2.err=(0:Int)/\I/\List.length x.2.1.names=List.length x.2.1.names/\List.length x.2.1.parts=List.length x.2.1.parts/\List.length x.2.1.names+List.length x.2.1.parts<=(100000:Nat))/\a8 J.2/\if isF e J.2=true then A/\cw e J.2=D.2/\J.1.kind=D.1.kind/\J.1.pkg=D.1.pkg/\J.1.name=D.1.name/\J.1.n=D.1.n/\J.1.names=D.1.names/\L.parts++M=D.1.parts/\J.1.pos=D.1.pos/\List.length J.1.names=List.length D.1.names/\List.length N=List.length D.1.parts/\A else a8 O/\∃(y:Nat×Trm×Par),(a8 y.2.2/\rem y.2.2<y.1/\rem y.2.2<=n/\List.length y.2.1.names+y.1<=F/\List.length y.2.1.parts+y.1<=F/\y.2.1.vars=[]/\y.2.1.shapes=[]/\aX b e C y.1 y.2.1 y.2.2=ab b e C {kind:=k,pkg:=g,name:=q,n:=z,names:=[],vars:=[],shapes:=[],parts:=[],pos:=pp:Trm} s)/\y.1<x.1/\b=b/\e=e/\false=false/\ak b O=y.2.2/\J.1.kind=y.2.1.kind/\J.1.pkg=y.2.1.pkg/\J.1.name=y.2.1.name/\J.1.n=y.2.1.n/\J.1.names=y.2.1.names/\L.parts++M=y.2.1.parts/\J.1.pos=y.2.1.pos/\List.length J.1.names=List.length y.2.1.names/\List.length N=List.length y.2.1.parts/\A else A/\x.2.2=D.2/\x.2.1.kind=D.1.kind/\x.2.1.pkg=D.1.pkg/\x.2.1.name=D.1.name/\x.2.1.n=D.1.n/\x.2.1.names=D.1.names/\x.2.1.parts=D.1.parts/\x.2.1.pos=D.1.pos/\List.length x.2.1.names=List.length D.1.names/\List.length x.2.1.parts=List.length D.1.parts/\A:=by
 conv=>zeta
 have hl:=hi.2.2.1;have hF:ab b e (aj (a7 n)) ⟨k,g,q,z,[],[],[],[],pp⟩ s=if isF e s=true then(⟨k,g,q,z,[],[],[],[],pp⟩,au s)else aX b e (aj (a7 n)) (s.toks.length+2) ⟨k,g,q,z,[],[],[],[],pp⟩ s:=rfl
 have hrd:dn (aj (a7 n)) n:=fm (cD n);generalize ab b e (aj (a7 n)) ⟨k,g,q,z,[],[],[],[],pp⟩ s=fin at hF⊢;refine⟨hi,a6 (fun h=>?_) (fun h=>?_)⟩
 ·rw[Hj h]at hF;subst hF;refine⟨trivial,aH h,?_⟩;exact Xr
 ·rw[Hh h]at hF;have h:isF e s=false:=by simpa using h
  rw[aR h];refine⟨⟨(s.toks.length+2,⟨k,g,q,z,[],[],[],[],pp⟩,s),⟨hi,by show rem s<_;have h1:=hi.1;have h2:=hi.2.1;unfold rem;split<;>omega,hn,by show 0+_<=_;omega,by show 0+_<=_;omega,rfl,rfl,hF.symm⟩,?_⟩,?_⟩
  ·exact Xr
  rintro⟨j,x,s1⟩ ⟨i1,i2,i3,ln,lp,kv,ks,i6⟩;simp only at i1 i2 i3 ln lp kv ks i6⊢;have ex:(⟨x.kind,x.pkg,x.name,x.n,x.names,[],[],x.parts,x.pos⟩:Trm)=x:=by cases x;simp_all
  try rw[ex]
  apply a6<;>intro hb
  ·have h0:s1.err=0:=bf.1 (by simpa using hb);obtain⟨j,rfl⟩:∃m,j=m+1:=⟨j-1,by omega⟩;have hp:=bA h0;obtain⟨gg,ea⟩:=hrd x s1 i1 h0 (by omega);have hbf:¬aQ s1=true:=by simp[aQ,h0]
   simp only[aX,Hh hbf]at i6;refine⟨⟨i1,h0,i3,by trivial,by trivial,by omega⟩,gg.good,a6 (fun c=>?_) (fun c=>?_)⟩
   ·rw[Hj c]at i6;subst i6;refine⟨trivial,aH c,?_⟩;exact Xr
   ·have c:isF e (aj (a7 n) x s1).2=false:=by simpa using c
    rw[Hh (by simp[c])]at i6;rw[aR c];obtain⟨n1,n2,n3,n4⟩:=eY hrd (btw:=b) (en:=e) (x:=x) i1 h0 (by omega) i2;refine⟨gg.good,(j,(aj (a7 n) x s1).1,ak b (aj (a7 n) x s1).2),⟨n1,n4,n3,by show(x.names++[_]).length+j<=5000;simp only[Ho,Hm];omega,by show(x.parts++[_]).length+j<=5000;simp only[Ho,Hm];omega,kv,ks,i6⟩,by show j<j+1;omega,?_⟩;exact Xr
  ·have h0:¬s1.err=0:=b7.1 (by simpa using hb);have hbf:aQ s1=true:=b7.2 h0
   have:(x,s1)=fin:=by
    rw[<-i6]
    cases j with|zero=>rfl|succ j=>simp only[aX,Hj hbf]
   subst this;refine⟨trivial,rfl,?_⟩;exact Xr
theorem DR(n:Nat)(k pp z:Int)(g q:Str)(us:List Trm)(b e:Str)(s:Par)(hi:a8 s)(hn:rem s<n)(hu:us.length<=1) :
  let A:=True;let B:=ax (a7 n);let C:=(ab b e B {kind:=k,pkg:=g,name:=q,n:=z,names:=[],vars:=[],shapes:=[],parts:=us,pos:=pp:Trm} s);let D:=(5000:Nat);a8 s/\if isF e s=true then A/\cw e s=C.2/\k=C.1.kind/\g=C.1.pkg/\q=C.1.name/\z=C.1.n/\us=C.1.parts/\pp=C.1.pos/\List.length us=List.length C.1.parts/\A else(∃(x:Nat×Trm×Par),(a8 x.2.2/\rem x.2.2<x.1/\rem x.2.2<n/\List.length x.2.1.parts+x.1<=D/\x.2.1.names=[]/\x.2.1.vars=[]/\x.2.1.shapes=[]/\aX b e B x.1 x.2.1 x.2.2=ab b e B {kind:=k,pkg:=g,name:=q,n:=z,names:=[],vars:=[],shapes:=[],parts:=us,pos:=pp:Trm} s)/\b=b/\e=e/\false=false/\cw e s=x.2.2/\k=x.2.1.kind/\g=x.2.1.pkg/\q=x.2.1.name/\z=x.2.1.n/\us=x.2.1.parts/\pp=x.2.1.pos/\List.length us=List.length x.2.1.parts/\A)/\∀(x:Nat×Trm×Par),let E:=a8 x.2.2;let F:=rem x.2.2<n;let G:=a7 n x.2.2;let H:=x.2.1.kind=C.1.kind;let I:=x.2.1.pkg=C.1.pkg;let J:=x.2.1.name=C.1.name;let K:=x.2.1.n=C.1.n;let L:=x.2.1.pos=C.1.pos;let M:=x.2.1.parts++[G.1];let N:=cw e G.2;E/\rem x.2.2<x.1/\F/\List.length x.2.1.parts+x.1<=D/\x.2.1.names=[]/\x.2.1.vars=[]/\x.2.1.shapes=[]/\aX b e B x.1 x.2.1 x.2.2=ab b e B {kind:=k,pkg:=g,name:=q,n:=z,names:=[],vars:=[],shapes:=[],parts:=us,pos:=pp:Trm} s->if(!aQ x.2.2)=true then(E/\F/\List.length x.2.1.parts=List.length x.2.1.parts/\List.length x.2.1.parts<=(100000:Nat))/\a8 G.2/\if isF e G.2=true then A/\cw e G.2=C.2/\H/\I/\J/\K/\x.2.1.parts++[G.1]=C.1.parts/\L/\List.length M=List.length C.1.parts/\A else a8 N/\∃(y:Nat×Trm×Par),(a8 y.2.2/\rem y.2.2<y.1/\rem y.2.2<n/\List.length y.2.1.parts+y.1<=D/\y.2.1.names=[]/\y.2.1.vars=[]/\y.2.1.shapes=[]/\aX b e B y.1 y.2.1 y.2.2=ab b e B {kind:=k,pkg:=g,name:=q,n:=z,names:=[],vars:=[],shapes:=[],parts:=us,pos:=pp:Trm} s)/\y.1<x.1/\b=b/\e=e/\false=false/\ak b N=y.2.2/\x.2.1.kind=y.2.1.kind/\x.2.1.pkg=y.2.1.pkg/\x.2.1.name=y.2.1.name/\x.2.1.n=y.2.1.n/\x.2.1.parts++[G.1]=y.2.1.parts/\x.2.1.pos=y.2.1.pos/\List.length M=List.length y.2.1.parts/\A else A/\x.2.2=C.2/\H/\I/\J/\K/\x.2.1.parts=C.1.parts/\L/\List.length x.2.1.parts=List.length C.1.parts/\A:=by
 conv=>zeta
 have hl:=hi.2.2.1;have hF:ab b e (ax (a7 n)) ⟨k,g,q,z,[],[],[],us,pp⟩ s=if isF e s=true then(⟨k,g,q,z,[],[],[],us,pp⟩,au s)else aX b e (ax (a7 n)) (s.toks.length+2) ⟨k,g,q,z,[],[],[],us,pp⟩ s:=rfl
 have hrd:dn (ax (a7 n)) (n-1):=bC (by rw[Im (by omega)];exact cD n);generalize ab b e (ax (a7 n)) ⟨k,g,q,z,[],[],[],us,pp⟩ s=fin at hF⊢;refine⟨hi,a6 (fun h=>?_) (fun h=>?_)⟩
 ·rw[Hj h]at hF;subst hF;refine⟨trivial,aH h,?_⟩;exact Xr
 ·rw[Hh h]at hF;have h:isF e s=false:=by simpa using h
  rw[aR h];refine⟨⟨(s.toks.length+2,⟨k,g,q,z,[],[],[],us,pp⟩,s),⟨hi,by show rem s<_;have h1:=hi.1;have h2:=hi.2.1;unfold rem;split<;>omega,hn,by show us.length+_<=_;omega,rfl,rfl,rfl,hF.symm⟩,?_⟩,?_⟩
  ·exact Xr
  rintro⟨j,x,s1⟩ ⟨i1,i2,i3,lp,kn,kv,ks,i6⟩;simp only at i1 i2 i3 lp kn kv ks i6⊢;have ex:(⟨x.kind,x.pkg,x.name,x.n,[],[],[],x.parts,x.pos⟩:Trm)=x:=by cases x;simp_all
  try rw[ex]
  rw[show(a7 n s1).2=(ax (a7 n) x s1).2 from rfl];apply a6<;>intro hb
  ·have h0:s1.err=0:=bf.1 (by simpa using hb);obtain⟨j,rfl⟩:∃m,j=m+1:=⟨j-1,by omega⟩;have hp:=bA h0;obtain⟨gg,ea⟩:=hrd x s1 i1 h0 (by omega);have hbf:¬aQ s1=true:=by simp[aQ,h0]
   simp only[aX,Hh hbf]at i6;refine⟨⟨i1,i3,by trivial,by omega⟩,gg.good,a6 (fun c=>?_) (fun c=>?_)⟩
   ·rw[Hj c]at i6;subst i6;refine⟨trivial,aH c,?_⟩;exact Xr
   ·have c:isF e (ax (a7 n) x s1).2=false:=by simpa using c
    rw[Hh (by simp[c])]at i6;rw[aR c];obtain⟨n1,n2,n3,n4⟩:=eY hrd (btw:=b) (en:=e) (x:=x) i1 h0 (by omega) i2;refine⟨gg.good,(j,(ax (a7 n) x s1).1,ak b (ax (a7 n) x s1).2),⟨n1,n4,by show rem (ak b _)<n;omega,by show(x.parts++[_]).length+j<=5000;simp only[Ho,Hm];omega,kn,kv,ks,i6⟩,by show j<j+1;omega,?_⟩;exact Xr
  ·have h0:¬s1.err=0:=b7.1 (by simpa using hb);have hbf:aQ s1=true:=b7.2 h0
   have:(x,s1)=fin:=by
    rw[<-i6]
    cases j with|zero=>rfl|succ j=>simp only[aX,Hj hbf]
   subst this;refine⟨trivial,rfl,?_⟩;exact Xr
theorem Ft(n:Nat)(s:Par) (ho:a8 s/\rem s<n+1) :
  let A:=(1:Nat);let B:=a7 n;let C:=ai s;let D:=C.pos=C.pos;let E:=(0:Int);let F:=mX UInt8=mX UInt8;let G:=E=E/\F/\F/\E=E/\E=E/\True;let H:=([40]:Str);let I:=([44]:Str);let J:=([41]:Str);let K:=ax B;let L:=([46]:Str);let M:=(1:Int);let N:=dT B s;a8 s/\(a8 s/\rem s<n+A)/\(∃(x:Nat×Trm×Par),(a8 x.2.2/\rem x.2.2<x.1/\rem x.2.2<n+A/\dJ B C.pos x.1 x.2.1 x.2.2=dT B s)/\D/\(cr B s).2=x.2.2/\(cr B s).1=x.2.1/\G)/\∀(x:Nat×Trm×Par),let O:=a8 x.2.2;let P:=cw H x.2.2;let Q:=[x.2.1];let R:=(ab I J K {kind:=(7:Int),pkg:=[],name:=[],n:=E,names:=[],vars:=[],shapes:=[],parts:=Q,pos:=C.pos:Trm} P);let S:=aE M (cw L P);let T:=x.2.1=N.1;O/\rem x.2.2<x.1/\rem x.2.2<n+A/\dJ B C.pos x.1 x.2.1 x.2.2=dT B s->if(!aQ x.2.2)=true then O/\if isF H x.2.2=true then(a8 P/\rem P<n/\List.length Q=List.length Q/\List.length Q<=A)/\∃(y:Nat×Trm×Par),(a8 y.2.2/\rem y.2.2<y.1/\rem y.2.2<n+A/\dJ B C.pos y.1 y.2.1 y.2.2=dT B s)/\y.1<x.1/\D/\R.2=y.2.2/\R.1.kind=y.2.1.kind/\R.1.pkg=y.2.1.pkg/\R.1.name=y.2.1.name/\R.1.n=y.2.1.n/\y.2.1.names=[]/\y.2.1.vars=[]/\y.2.1.shapes=[]/\R.1.parts=y.2.1.parts/\R.1.pos=y.2.1.pos/\G else a8 P/\if isF L P=true then(a8 (cw L P)/\¬M=E)/\∃(y:Nat×Trm×Par),(a8 y.2.2/\rem y.2.2<y.1/\rem y.2.2<n+A/\dJ B C.pos y.1 y.2.1 y.2.2=dT B s)/\y.1<x.1/\D/\S.2=y.2.2/\(9:Int)=y.2.1.kind/\[]=y.2.1.pkg/\S.1.text=y.2.1.name/\E=y.2.1.n/\y.2.1.names=[]/\y.2.1.vars=[]/\y.2.1.shapes=[]/\Q=y.2.1.parts/\C.pos=y.2.1.pos/\G else True/\T/\cw L P=N.2/\True else True/\T/\x.2.2=N.2/\True:=by
 conv=>zeta
 have hR:=cD n;have hr4:=j8 ho.1;have ha:=fa hR ho.1 ho.2;have hpF:dT (a7 n) s=dJ (a7 n) (ai s).pos (s.toks.length+2) (cr (a7 n) s).1 (cr (a7 n) s).2:=rfl;generalize dT (a7 n) s=fin at hpF⊢;generalize (ai s).pos=p at hpF⊢;have hq:rem (cr (a7 n) s).2<s.toks.length+2:=by have h1:=ha.good.1;have h2:=ha.good.2.1;have h3:=ha.goes.toks;rw[h3]at h2;unfold rem;rw[h3];split<;>omega
 have hq2:=ha.goes.le;have hg:=ha.good;have ho2:=ho.2;refine⟨ho.1,ho,⟨(s.toks.length+2,(cr (a7 n) s).1,(cr (a7 n) s).2),⟨hg,hq,by show rem (cr (a7 n) s).2<_;omega,hpF.symm⟩,?_⟩,?_⟩
 ·exact Xr
 rintro⟨j,t,s1⟩ ⟨i1,i2,i3,i4⟩;simp only at i1 i2 i3 i4⊢;apply a6<;>intro hb
 ·have hbf:aQ s1=false:=by simpa using hb
  obtain⟨j,rfl⟩:∃m,j=m+1:=⟨j-1,by omega⟩;simp only[dJ,hbf,I1,HW]at i4;refine⟨i1,a6 (fun c=>?_) (fun c=>?_)⟩
  ·rw[Hj c]at i4;rw[aH c];have m:=aC i1 c;have r:=aG i1 c;have hp:=bA (ct c).2
   have hRp:dn (ax (a7 n)) (n-1):=bC (by
    by_cases h:n=0
    ·subst h;omega
    ·rw[Im (by omega)];exact hR)
   have hn1:rem (au s1)<n:=by omega
   have g:=aI hRp [44] [41] (⟨7,[],[],0,[],[],[],[t],p⟩:Trm) m.good (by omega);have kn:=ck (fun x:Trm=>x.names=[]) (one:=ax (a7 n)) (fun x s h=>h) [44] [41] (x:=⟨7,[],[],0,[],[],[],[t],p⟩) (au s1) rfl;have kv:=ck (fun x:Trm=>x.vars=[]) (one:=ax (a7 n)) (fun x s h=>h) [44] [41] (x:=⟨7,[],[],0,[],[],[],[t],p⟩) (au s1) rfl;have ks:=ck (fun x:Trm=>x.shapes=[]) (one:=ax (a7 n)) (fun x s h=>h) [44] [41] (x:=⟨7,[],[],0,[],[],[],[t],p⟩) (au s1) rfl;generalize ab [44] [41] (ax (a7 n)) (⟨7,[],[],0,[],[],[],[t],p⟩:Trm) (au s1)=L at i4 g kn kv ks⊢;have gl:=g.le;refine⟨⟨m.good,hn1,by trivial,by simp⟩,(j,L.1,L.2),⟨g.good,by show rem L.2<j;omega,by show rem L.2<n+1;omega,i4⟩,by show j<j+1;omega,?_⟩
   repeat (first|exact trivial|refine⟨by first|rfl|trivial|exact kn|exact kv|exact ks,?_⟩)
  ·rw[Hh c]at i4;have c:isF [40] s1=false:=by simpa using c
   rw[aR c];refine⟨i1,a6 (fun d=>?_) (fun d=>?_)⟩
   ·rw[Hj d]at i4;rw[aH d];have m:=aC i1 d;have r:=aG i1 d;have k:=aO (k:=1) m.good (by decide);have kl:=k.goes.le;refine⟨⟨m.good,by decide⟩,(j,_,_),⟨k.good,by show rem (aE 1 (au s1)).2<j;omega,by show rem (aE 1 (au s1)).2<n+1;omega,i4⟩,by show j<j+1;omega,?_⟩;exact Xr
   ·rw[Hh d]at i4;have d:isF [46] s1=false:=by simpa using d
    rw[aR d];subst i4;exact Xr
 ·have hbf:aQ s1=true:=by simpa using hb
  have:(t,s1)=fin:=by
   rw[<-i4]
   cases j with|zero=>rfl|succ j=>simp only[dJ,Hj hbf]
  subst this;exact Xr
end Go.AL.Seat
end
