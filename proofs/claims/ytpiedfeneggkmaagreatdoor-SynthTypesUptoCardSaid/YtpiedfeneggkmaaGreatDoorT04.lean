/- Plain facts. The layer: Go code as conditions, and that they are sound. No condition. -/
import Derived.Test.YtpiedfeneggkmaaGreatDoorT03
import Derived.Deep.DeepWitnessRowRef
import Derived.Lib.AtoiErrMem
import Derived.Lib.DecodeN
import Derived.Lib.LaidIn
import Derived.Lib.LaidU8T
import Derived.LoopIn
import Derived.LoopNIn
import Derived.OwnWalkIn
import Derived.PinnedBridge
import Derived.ProofKit
import Derived.RangeFuncBox
import Derived.RangeFuncLeaves
import Derived.Shelf.SlIter.Sorted
import Derived.Shelf.SlSortCmp.Whole1
import Derived.Shelf.Slices.CompactS
import Derived.Shelf.Small.Strs
import Derived.Shelf.Sort.Plain
import Derived.Shelf.Strconv.Atoi
import Derived.Shelf.Strings.Cut
import Derived.Shelf.Strings.Search3
import Derived.Shelf.Strings.SlTrimAscii
import Derived.Shelf.Strings.Split
import Derived.Shelf.Unicode.DecodeAny
import Derived.Shelf.Unicode.ValidAny
import Derived.Shelf.Vars
import Derived.TacticsInMore
import Derived.Test.YtpiedfeneggkmaaGreatDoorCards
import Derived.Test.YtpiedfeneggkmaaGreatDoorProg
import Derived.Test.YtpiedfeneggkmaaGreatDoorTie
import Derived.WalkKit
set_option linter.all false
set_option maxRecDepth 100000
section
namespace Go.Pd
open Go.AL
abbrev PS:=Par
def HA(l:List Tokn)(a:Int):Tokn:=
 if a<(l.length:Int)then l.getD a.toNat (dfl (.st .token))
 else if l.length=0 then⟨0,[],0⟩else⟨0,[],(l.getD ((l.length:Int)-1).toNat (dfl (.st .token))).pos⟩
def lk(s:Str):Int:=s.foldl (fun n c=>10 *n+((c.toNat:Int)-48)) 0
end Go.Pd
end
section
namespace Go.Pd
open Go.AL
def nU(t:Str):Prop:=t≠[]/\t.length<=15/\∀c∈t,48<=c.toNat/\c.toNat<=57
def Nums(l:List Tokn):Prop:=∀t∈l,t.kind=3->nU t.text
def H2(s:Par):Prop:=0<=s.pos/\s.pos<=(s.toks.length:Int)/\s.toks.length<=4097/\Nums s.toks
def rem(s:Par):Nat:=if s.err=0 then((s.toks.length:Int)-s.pos).toNat+1 else 0
structure Goes(s s':Par):Prop where
 good:H2 s'
 toks:s'.toks=s.toks
 le:rem s'<=rem s
 cap:∀q:Int,(HA s.toks q).kind=0->s.pos<=q->s'.pos<=q
end Go.Pd
end
section
namespace Go.AL
open Go.Proofs Go.Shelf Go.RowKit Go.Pd
theorem nV:∀(l:Str)(acc:Nat),(∀c∈l,48<=c.toNat/\c.toNat<=57)->∃m:Nat,Lib.decFrom acc l=some m/\(m:Int)=l.foldl (fun n c=>10 *n+((c.toNat:Int)-48)) (acc:Int)/\m<(acc+1) *10 ^ l.length
 |[],acc,_=>⟨acc,rfl,rfl,by simp⟩
 |c::r,acc,h=>by
  obtain⟨h1,h2⟩:=h c (List.mem_cons_self ..);obtain⟨m,e1,e2,e3⟩:=nV r (acc *10+(c.toNat-48)) (fun d hd=>h d (List.mem_cons_of_mem _ hd));refine⟨m,?_,?_,?_⟩
  ·simp only[Lib.decFrom,Lib.digitVal,h1,h2,and_self,if_true];exact e1
  ·rw[e2,List.foldl_cons];congr 1;omega
  ·refine Nat.lt_of_lt_of_le e3 ?_;rw[List.length_cons,Nat.pow_succ,<-Nat.mul_assoc,Nat.mul_right_comm];exact Nat.mul_le_mul_right _ (by omega)
theorem DU{t:Str}(h:nU t):Lib.atoi t=some (lk t)/\0<=lk t/\lk t<1000000000000000:=by
 obtain⟨h1,h2,h3⟩:=h;obtain⟨m,e1,e2,e3⟩:=nV t 0 h3;have e4:(m:Int)=lk t:=e2;refine⟨?_,by omega,?_⟩
 ·cases t with
  |nil=>exact absurd rfl h1
  |cons c r=>
   have hc:=h3 c (List.mem_cons_self ..);have n1:(c ==45)=false:=by rw[beq_eq_false_iff_ne];rintro rfl;simp at hc
   have n2:(c ==43)=false:=by rw[beq_eq_false_iff_ne];rintro rfl;simp at hc
   simp only[Lib.atoi,n1,n2,Bool.false_eq_true,if_false,Lib.decNat,List.isEmpty_cons,e1,Option.map_some,e4]
 ·have:m<10 ^ t.length:=by simpa using e3
  have h10:10 ^ t.length<=10 ^ 15:=Nat.pow_le_pow_right (by decide) h2;have:m<1000000000000000:=Nat.lt_of_lt_of_le this h10;omega
variable [Tabs] {P:Program} {ρ:Ren}
theorem After.below{w w':World}{pub:Nat->Nat->Prop}{e:Nat->Option CObj}(hp:jE w pub)(hd:∀id,e id=none)(hb:Below w.heap.size w w'):After w pub e (aG (cJ [] [])) w' pub e where
 os:=hb.os
 tape:=hb.tape
 output:=hb.output
 size:=hb.size
 block b h _:=hb.block b h
 cell b o h _:=aE (hb.block b h) o
 kind b h _:=⟨bC (hb.block b h),fun o=>bj (hb.block b h) o⟩
 ext:=⟨fun _ c h=>⟨c,h,CLe.refl c⟩,fun _ _ h=>h,fun b o h=>by obtain⟨v,hv⟩:=hp b o h;exact aE (hb.block b (bh hv)) o⟩
 fresh b o h:=.inl h
 ok b o h:=by obtain⟨v,hv⟩:=hp b o h;exact⟨v,(aE (hb.block b (bh hv)) o).trans hv⟩
 slots id o h:=by simp[cJ,bd,aX]at h
 dom id _:=hd id
 inj i j c d b o h:=by rw[hd i]at h;cases h
theorem yA(L:Lays.n172 P ρ)(t:Str)(h:nU t):aF P (ρ.f 172) [.str t] [] ⟨some (nU t),none,.tup [.int .i64 (lk t),.nilif],[]⟩:=by intro w pub e vs hp ht hv hs hd hi;obtain⟨v,rfl,h1⟩:=VL.one_inv hv;obtain⟨rfl,hl⟩:=h1.str_inv;obtain⟨a1,a2,a3⟩:=DU h;refine(Any.strconv_Atoi L ⟨t.toArray⟩ (lk t) (by have:=h.2.1;show t.toArray.size<=18;simp;omega) (by simpa using a1) w).mono ?_;rintro en w' ⟨rfl,ty,rfl⟩;refine⟨pub,e,?_⟩;refine And.intro (fun b pv u h=>by cases h) (And.intro ?_ (After.below hp (fun id=>hd id rfl) (Lib.bytesWorld_below w _ _)));have b1:inR .i64 (lk t):=b8 (by omega) (by omega);exact V.of_tup (VL.cons (.int _ _ b1.1 b1.2) (VL.cons .nilif .nil))
def FV:Pat:=p1 .str fun t=>⟨some (nU t),none,.tup [.int .i64 (lk t),.nilif],[]⟩
theorem yB{f:Nat}(L:Lays.n172 P ρ)(hf:ρ.f 172=f)(he:aJ P f):ak P f FV:=by subst hf;exact bp he fun t _ ho=>yA L t (ho _ rfl)
end Go.AL
end
section
namespace Go.Pd
open Go.AL
def al:Shape:=⟨0,[],[],[],[]⟩
def ao:Trm:=⟨0,[],[],0,[],[],[],[],0⟩
end Go.Pd
end
section
namespace Go.Pd
open Go.AL
mutual
def szT:Trm->Nat
 |⟨_,_,_,_,_,_,_,ps,_⟩=>szTL ps+1
def szTL:List Trm->Nat
 |[]=>0
 |p::r=>szT p+szTL r
end
mutual
def countT:Trm->Int->Int×Int
 |⟨_,_,_,_,_,_,_,ps,_⟩,m=>((countL ps m 1 0).1,(countL ps m 1 0).2+1)
def countL:List Trm->Int->Int->Int->Int×Int
 |[],_,n,d=>(n,d)
 |p::r,m,n,d=>if m<n then(n,d)else countL r m (n+(countT p (m-n)).1) (max d (countT p (m-n)).2)
end
theorem BH(t:Trm)(m:Int):countT t m=((countL t.parts m 1 0).1,(countL t.parts m 1 0).2+1):=by cases t;rw[countT]
theorem jt(t:Trm):szT t=szTL t.parts+1:=by cases t;rw[szT]
theorem fw(t:Trm):1<=szT t:=by rw[jt];omega
mutual
theorem countT_bound:∀(t:Trm)(m:Int),0<=m->1<=(countT t m).1/\(countT t m).1<=m+1/\1<=(countT t m).2/\(countT t m).2<=(countT t m).1
 |⟨k,g,q,z,ns,vs,ss,ps,pp⟩,m,hm=>by have h:=countL_bound ps m 1 0 (by omega) (by omega) (by omega) (by omega);rw[countT];exact⟨h.1,h.2.1,by show 1<=(countL ps m 1 0).2+1;omega,by show(countL ps m 1 0).2+1<=_;omega⟩
theorem countL_bound:∀(l:List Trm)(m n d:Int),1<=n->n<=m+1->0<=d->d+1<=n->1<=(countL l m n d).1/\(countL l m n d).1<=m+1/\0<=(countL l m n d).2/\(countL l m n d).2+1<=(countL l m n d).1
 |[],m,n,d,h1,h2,h3,h4=>by rw[countL];exact⟨h1,h2,h3,h4⟩
 |p::r,m,n,d,h1,h2,h3,h4=>by
  rw[countL];split
  ·exact⟨h1,h2,h3,h4⟩
  ·have h:=countT_bound p (m-n) (by omega);exact countL_bound r m _ _ (by omega) (by omega) (by omega) (by omega)
end
theorem iy:∀{l:List Trm} {t:Trm},t∈l->szT t<=szTL l
 |p::r,t,h=>by
  rw[szTL];rcases List.mem_cons.1 h with e|e
  ·subst e;omega
  ·have:=iy e;omega
def bM{α:Type}(F:α->Bool):List α->Nat->Int
 |[],_=>-1
 |x::r,k=>if F x=true then bM F r (k+1)else(k:Int)
theorem iV{α:Type}(F:α->Bool):∀(l:List α)(k:Nat),decide (0<=bM F l k)=!l.all F
 |[],_=>rfl
 |x::r,k=>by
  rw[bM,List.all_cons];by_cases h:F x=true
  ·rw[if_pos h,iV F r (k+1),h];rfl
  ·rw[if_neg h];have:F x=false:=by simpa using h
   rw[this];simp
def b9(s:Shape):Bool:=!decide (s.kind=10)
theorem mh(f:Shape->Bool):∀l:List Shape,allL f l=l.all (allS f)
 |[]=>rfl
 |p::r=>by rw[List.all_cons,<-mh f r];rfl
end Go.Pd
end
section
namespace Go.AL
variable [Tabs]
section
variable {P:Program} {f:Nat}
def pfc(τ:Ty)(n g:Nat)(F:den τ->Ans):Pat
 |[a,.fn f [.ptr 900 0]],[(900,.box (.fn h []))]=>(match Nat.beq f n,Nat.beq h g,arg τ a with|true,true,some a=>some (F a)|_,_,_=>none)
 |_,_=>none
theorem kj{τ:Ty}{n g:Nat}{F:den τ->Ans}(he:aJ P f)(h:∀x,Wf τ x->(∀q,(F x).ob=some q->q)->aF P f [inj τ x,.fn n [.ptr 900 0]] [(900,.box (.fn g []))] (F x)):ak P f (pfc τ n g F):=by
 intro args S A hA ho _;unfold pfc at hA;split at hA
 ·split at hA
  ·rename_i hb hc hx;simp only[Xs]at hA;subst hA;have e:=Nat.eq_of_beq_eq_true hb;subst e;have e:=Nat.eq_of_beq_eq_true hc;subst e;exact⟨he,aF.args (.cons (Rd.arg hx) (.cons (Rd.refl _) .nil)) (aF.wf fun hw=>h _ hw.one ho)⟩
  ·cases hA
 ·cases hA
def pcl(τ:Ty)(g:Nat)(F:den τ->Ans):Pat
 |[a,.ptr 900 0],[(900,.box (.fn h []))]=>(match Nat.beq h g,arg τ a with|true,some a=>some (F a)|_,_=>none)
 |_,_=>none
theorem ue{τ:Ty}{g:Nat}{F:den τ->Ans}(he:aJ P f)(h:∀x,Wf τ x->(∀q,(F x).ob=some q->q)->aF P f [inj τ x,.ptr 900 0] [(900,.box (.fn g []))] (F x)):ak P f (pcl τ g F):=by
 intro args S A hA ho _;unfold pcl at hA;split at hA
 ·split at hA
  ·rename_i hc hx;simp only[Xs]at hA;subst hA;have e:=Nat.eq_of_beq_eq_true hc;subst e;exact⟨he,aF.args (.cons (Rd.arg hx) (.cons (Rd.refl _) .nil)) (aF.wf fun hw=>h _ hw.one ho)⟩
  ·cases hA
 ·cases hA
end
end Go.AL
end
section
namespace Go.Pd
open Go.AL
def cut(s:Str)(a b:Int):Str:=(s.take b.toNat).drop a.toNat
def nW(r:Str)(k:Nat):Bool:=decide (k<r.length)&&decide ((r.getD k 0).toNat/64=2)
def oJ(r:Str)(k:Nat):Nat:=(r.getD k 0).toNat%64
def oX(c:Nat):Bool:=decide (c<1114112)&&!(decide (55296<=c)&&decide (c<57344))
def ib:Str->Nat
 |[]=>0
 |b::r=>
  if b.toNat<128 then 1
  else if b.toNat/32=6/\nW r 0=true then(if 128<=b.toNat%32 *64+oJ r 0 then 2 else 0)
  else if b.toNat/16=14/\nW r 0=true/\nW r 1=true then
   (if 2048<=b.toNat%16 *4096+oJ r 0 *64+oJ r 1/\oX (b.toNat%16 *4096+oJ r 0 *64+oJ r 1)=true then 3 else 0)
  else if b.toNat/8=30/\nW r 0=true/\nW r 1=true/\nW r 2=true then
   (if 65536<=b.toNat%8 *262144+oJ r 0 *4096+oJ r 1 *64+oJ r 2/\oX (b.toNat%8 *262144+oJ r 0 *4096+oJ r 1 *64+oJ r 2)=true then 4 else 0)
  else 0
def iW:Nat->Str->Nat->Option Nat
 |0,_,_=>none
 |f+1,x,k=>if x=[]then none else if ib x=0 then some k else iW f (x.drop (ib x)) (k+ib x)
def km(x:Str):Option Nat:=iW x.length x 0
structure SC where
 pos:Int
 out:List Tokn
 err:Int
 fat:Int
def splitB(c:UInt8):Str->List Str
 |[]=>[[]]
 |b::r=>if b=c then[]::splitB c r else match splitB c r with|[]=>[[b]]|p::ps=>(b::p)::ps
def iC(s:Str):Str:=s.takeWhile fun b=>!decide (b=45)
def lG(s:Str):Str:=s.drop ((iC s).length+1)
def mZ(s:Str):Bool:=decide ((iC s).length<s.length)
end Go.Pd
end
section
namespace Go.Pd
open Go.AL
theorem GF(b:UInt8):0<=bI b/\bI b<=255:=by have:=b.toNat_lt;unfold bI;omega
end Go.Pd
namespace Go.Pd
open Go.AL
def qh:Str:=[48,49,50,51,52,53,54,55,56,57]
def nX(b:UInt8):Bool:=fv (bI b)
def qi(s:Str):Str:=(s.reverse.dropWhile nX).reverse.dropWhile nX
def DV(s:Str)(c:Int):Int:=bM (fun b=>!decide (bI b=c)) s 0
def ju(s:Str):Nat×Nat:=if s=[]then(65533,0)else Lib.decodeN s.length (s.getD 0 0).toNat (s.getD 1 0).toNat (s.getD 2 0).toNat (s.getD 3 0).toNat
theorem rU{p:UInt8->Bool}:∀{l:Str},l.dropWhile p=[]↔l.all p=true
 |[]=>by simp
 |b::r=>by
  rw[List.dropWhile_cons];split
  ·rename_i h;rw[rU,List.all_cons,h,Bool.true_and]
  ·rename_i h;simp[h]
theorem DW(s:Str):(qi s).length<=s.length:=by unfold qi;have h1:=(List.dropWhile_sublist (p:=nX) (l:=(s.reverse.dropWhile nX).reverse)).length_le;have h2:=(List.dropWhile_sublist (p:=nX) (l:=s.reverse)).length_le;rw[List.length_reverse]at h1 h2;omega
def kn(n b0 b1 b2 b3:Nat):Nat:=
 if b0<128 then 1
 else if b0/32=6/\(1<n/\b1/64=2)then(if b0%32 *64+b1%64≥128 then 2 else 0)
 else if b0/16=14/\(1<n/\b1/64=2)/\(2<n/\b2/64=2)then
  (if b0%16 *4096+b1%64 *64+b2%64≥2048/\(b0%16 *4096+b1%64 *64+b2%64<55296∨(57344<=b0%16 *4096+b1%64 *64+b2%64/\b0%16 *4096+b1%64 *64+b2%64<=1114111))then 3 else 0)
 else if b0/8=30/\(1<n/\b1/64=2)/\(2<n/\b2/64=2)/\(3<n/\b3/64=2)then
  (if b0%8 *262144+b1%64 *4096+b2%64 *64+b3%64≥65536/\(b0%8 *262144+b1%64 *4096+b2%64 *64+b3%64<55296∨(57344<=b0%8 *262144+b1%64 *4096+b2%64 *64+b3%64/\b0%8 *262144+b1%64 *4096+b2%64 *64+b3%64<=1114111))then 4 else 0)
 else 0
theorem vM(n b0 b1 b2 b3:Nat)(h1:b1<256)(h2:b2<256)(h3:b3<256)(h0:b0<256)(hn:1<=n) :
  ((Lib.decodeN n b0 b1 b2 b3).1=65533/\(Lib.decodeN n b0 b1 b2 b3).2=1↔kn n b0 b1 b2 b3=0)/\(kn n b0 b1 b2 b3≠0->(Lib.decodeN n b0 b1 b2 b3).2=kn n b0 b1 b2 b3)/\
  (Lib.decodeN n b0 b1 b2 b3).1<=1114111/\1<=(Lib.decodeN n b0 b1 b2 b3).2/\(Lib.decodeN n b0 b1 b2 b3).2<=n:=by
 unfold Lib.decodeN kn;by_cases c1:b0<128
 ·simp only[if_pos c1];refine⟨⟨fun e=>?_,fun e=>?_⟩,fun e=>?_,?_,?_,?_⟩<;>first|omega|exact⟨rfl,rfl⟩|exact⟨trivial,trivial⟩|exact(e rfl).elim|exact e.elim|exact(e trivial).elim|simp only at *
 simp only[if_neg c1];by_cases c2:b0/32=6/\(1<n/\b1/64=2)
 ·simp only[if_pos c2];by_cases d:b0%32 *64+b1%64≥128
  ·simp only[if_pos d];refine⟨⟨fun e=>?_,fun e=>?_⟩,fun e=>?_,?_,?_,?_⟩<;>first|omega|exact⟨rfl,rfl⟩|exact⟨trivial,trivial⟩|exact(e rfl).elim|exact e.elim|exact(e trivial).elim|simp only at *
  ·simp only[if_neg d];refine⟨⟨fun e=>?_,fun e=>?_⟩,fun e=>?_,?_,?_,?_⟩<;>first|omega|exact⟨rfl,rfl⟩|exact⟨trivial,trivial⟩|exact(e rfl).elim|exact e.elim|exact(e trivial).elim|simp only at *
 simp only[if_neg c2];by_cases c3:b0/16=14/\(1<n/\b1/64=2)/\(2<n/\b2/64=2)
 ·simp only[if_pos c3];by_cases d:b0%16 *4096+b1%64 *64+b2%64≥2048/\(b0%16 *4096+b1%64 *64+b2%64<55296∨(57344<=b0%16 *4096+b1%64 *64+b2%64/\b0%16 *4096+b1%64 *64+b2%64<=1114111))
  ·simp only[if_pos d];refine⟨⟨fun e=>?_,fun e=>?_⟩,fun e=>?_,?_,?_,?_⟩<;>first|omega|exact⟨rfl,rfl⟩|exact⟨trivial,trivial⟩|exact(e rfl).elim|exact e.elim|exact(e trivial).elim|simp only at *
  ·simp only[if_neg d];refine⟨⟨fun e=>?_,fun e=>?_⟩,fun e=>?_,?_,?_,?_⟩<;>first|omega|exact⟨rfl,rfl⟩|exact⟨trivial,trivial⟩|exact(e rfl).elim|exact e.elim|exact(e trivial).elim|simp only at *
 simp only[if_neg c3];by_cases c4:b0/8=30/\(1<n/\b1/64=2)/\(2<n/\b2/64=2)/\(3<n/\b3/64=2)
 ·simp only[if_pos c4];by_cases d:b0%8 *262144+b1%64 *4096+b2%64 *64+b3%64≥65536/\(b0%8 *262144+b1%64 *4096+b2%64 *64+b3%64<55296∨(57344<=b0%8 *262144+b1%64 *4096+b2%64 *64+b3%64/\b0%8 *262144+b1%64 *4096+b2%64 *64+b3%64<=1114111))
  ·simp only[if_pos d];refine⟨⟨fun e=>?_,fun e=>?_⟩,fun e=>?_,?_,?_,?_⟩<;>first|omega|exact⟨rfl,rfl⟩|exact⟨trivial,trivial⟩|exact(e rfl).elim|exact e.elim|exact(e trivial).elim|simp only at *
  ·simp only[if_neg d];refine⟨⟨fun e=>?_,fun e=>?_⟩,fun e=>?_,?_,?_,?_⟩<;>first|omega|exact⟨rfl,rfl⟩|exact⟨trivial,trivial⟩|exact(e rfl).elim|exact e.elim|exact(e trivial).elim|simp only at *
 simp only[if_neg c4];refine⟨⟨fun e=>?_,fun e=>?_⟩,fun e=>?_,?_,?_,?_⟩<;>first|omega|exact⟨rfl,rfl⟩|exact⟨trivial,trivial⟩|exact(e rfl).elim|exact e.elim|exact(e trivial).elim|simp only at *
theorem vN(c:Nat):oX c=true↔(c<55296∨(57344<=c/\c<=1114111)):=by unfold oX;simp only[Bool.and_eq_true,decide_eq_true_eq,Bool.not_eq_true',Bool.and_eq_false_iff,decide_eq_false_iff_not];omega
theorem BI(r:Str)(k:Nat):nW r k=true↔(k+1<r.length+1/\(r.getD k 0).toNat/64=2):=by unfold nW;simp only[Bool.and_eq_true,decide_eq_true_eq];omega
theorem DX(b:UInt8)(r:Str):ib (b::r)=kn (r.length+1) b.toNat (r.getD 0 0).toNat (r.getD 1 0).toNat (r.getD 2 0).toNat:=by unfold ib kn oJ;simp only[BI,vN]
theorem qj{s:Str}(h:s≠[]):((ju s).1=65533/\(ju s).2=1↔ib s=0)/\(ib s≠0->(ju s).2=ib s)/\(ju s).1<=1114111/\1<=(ju s).2/\(ju s).2<=s.length:=by
 cases s with
 |nil=>exact absurd rfl h
 |cons b r=>
  have e:ju (b::r)=Lib.decodeN (r.length+1) b.toNat (r.getD 0 0).toNat (r.getD 1 0).toNat (r.getD 2 0).toNat:=by unfold ju;rw[if_neg h];rfl
  rw[e,DX,List.length_cons];exact vM _ _ _ _ _ (r.getD 0 0).toNat_lt (r.getD 1 0).toNat_lt (r.getD 2 0).toNat_lt b.toNat_lt (by omega)
theorem qk:∀(f g:Nat)(x:Str)(k:Nat),x.length<=f->x.length<=g->iW f x k=iW g x k
 |0,0,_,_,_,_=>rfl
 |0,g+1,x,k,h,_=>by have e:x=[]:=List.eq_nil_of_length_eq_zero (by omega);subst e;simp[iW]
 |f+1,0,x,k,_,h=>by have e:x=[]:=List.eq_nil_of_length_eq_zero (by omega);subst e;simp[iW]
 |f+1,g+1,x,k,h1,h2=>by
  simp only[iW];split
  ·rfl
  ·rename_i hx;split
   ·rfl
   ·rename_i hn;have hl:(x.drop (ib x)).length<x.length:=by rw[List.length_drop];have:=List.length_pos_iff.2 hx;omega
    exact qk f g _ _ (by omega) (by omega)
def kq(s:Str)(a:Nat):Option Nat:=iW s.length (s.drop a) a
theorem yC(s:Str):kq s 0=km s:=rfl
theorem BJ{s:Str}{a:Nat}(h:s.length<=a):kq s a=none:=by unfold kq;rw[List.drop_eq_nil_of_le h];cases s.length<;>simp[iW]
theorem BK{s:Str}{a:Nat}(h:a<s.length)(hb:ib (s.drop a)=0):kq s a=some a:=by
 unfold kq;obtain⟨n,hn⟩:∃n,s.length=n+1:=⟨s.length-1,by omega⟩;have hx:s.drop a≠[]:=by intro e;have:=congrArg List.length e;simp at this;omega
 rw[hn,iW,if_neg hx,if_pos hb]
theorem yD{s:Str}{a:Nat}(h:a<s.length)(hb:ib (s.drop a)≠0):kq s a=kq s (a+ib (s.drop a)):=by
 unfold kq;obtain⟨n,hn⟩:∃n,s.length=n+1:=⟨s.length-1,by omega⟩;have hx:s.drop a≠[]:=by intro e;have:=congrArg List.length e;simp at this;omega
 rw[hn,iW,if_neg hx,if_neg hb,List.drop_drop];refine qk _ _ _ _ ?_ ?_<;>(rw[List.length_drop];omega)
end Go.Pd
namespace Go.Pd
open Go.AL
end Go.Pd
namespace Go.Pd
open Go.AL
end Go.Pd
namespace Go.Pd
open Go.AL
theorem lp(c:UInt8):∀s:Str,(splitB c s).length<=s.length+1
 |[]=>by simp[splitB]
 |b::r=>by
  have ih:=lp c r;unfold splitB;split
  ·simp only[List.length_cons];omega
  ·split
   ·simp
   ·rename_i e;rw[e]at ih;simp only[List.length_cons]at ih⊢;omega
end Go.Pd
namespace Go.Pd
open Go.AL
theorem BL(s:Str):(iC s).length<=s.length:=(List.takeWhile_sublist _).length_le
end Go.Pd
namespace Go.Pd
open Go.AL
end Go.Pd
namespace Go.Pd
open Go.AL
end Go.Pd
end
section
namespace Go.AL
open Go.Proofs Go.Shelf Go.RowKit Go.Pd
theorem gw{c:UInt8}:∀{s:Str},Lib.indexByte s c=-1->c∉s
 |[],_=>List.not_mem_nil
 |b::r,h=>by
  unfold Lib.indexByte at h;by_cases e:b=c
  ·subst e;simp at h
  ·have e':(b ==c)=false:=beq_eq_false_iff_ne.2 e;rw[e']at h;simp only[Bool.false_eq_true,if_false]at h;have hg:=Lib.indexByte_ge r c;split at h
   ·rename_i k;have:=gw (s:=r) (by simpa using k);rw[List.mem_cons,not_or];exact⟨fun q=>e q.symm,this⟩
   ·omega
theorem fx{c:UInt8}:∀{s:Str},Lib.indexByte s c≠-1->∃k:Nat,Lib.indexByte s c=k/\k<s.length/\s=s.take k++c::s.drop (k+1)/\c∉s.take k
 |[],h=>absurd rfl h
 |b::r,h=>by
  unfold Lib.indexByte at h⊢;by_cases e:b=c
  ·subst e;refine⟨0,by simp,by simp,by simp,by simp⟩
  ·have e':(b ==c)=false:=beq_eq_false_iff_ne.2 e;rw[e']at h⊢;simp only[Bool.false_eq_true,if_false]at h⊢;split at h
   ·exact absurd rfl h
   ·rename_i k;obtain⟨j,j1,j2,j3,j4⟩:=fx (s:=r) (by simpa using k);rw[if_neg k];refine⟨j+1,by rw[j1];rfl,by simp;omega,?_,?_⟩
    ·rw[List.take_succ_cons,List.drop_succ_cons,List.cons_append,<-j3]
    ·rw[List.take_succ_cons,List.mem_cons,not_or];exact⟨fun q=>e q.symm,j4⟩
theorem ql{c:UInt8}:∀{s:Str},c∉s->splitB c s=[s]
 |[],_=>rfl
 |b::r,h=>by rw[List.mem_cons,not_or]at h;unfold splitB;rw[if_neg (fun e=>h.1 e.symm),ql h.2]
theorem sE{c:UInt8}:∀{a:Str} (r:Str),c∉a->splitB c (a++c::r)=a::splitB c r
 |[],r,_=>by rw[List.nil_append,splitB,if_pos rfl]
 |b::a,r,h=>by rw[List.mem_cons,not_or]at h;rw[List.cons_append,splitB,if_neg (fun e=>h.1 e.symm),sE r h.2]
theorem qm(c:UInt8):∀(n:Nat)(s:Str),s.length<=n->Lib.splitK [c] 0 (s.count c) s=splitB c s
 |n,s,hn=>by
  by_cases h:Lib.indexByte s c=-1
  ·have hm:=gw h;rw[List.count_eq_zero.2 hm,ql hm];rfl
  ·obtain⟨k,k1,k2,k3,k4⟩:=fx h;have hc:s.count c=(s.drop (k+1)).count c+1:=by have e:=congrArg (List.count c) k3;rw[List.count_append,List.count_cons_self,List.count_eq_zero.2 k4]at e;omega
   rw[hc];unfold Lib.splitK;rw[Lib.index_one,if_neg (by simpa using h),k1];have hd:(k:Int).toNat+[c].length=k+1:=rfl;have ht:(k:Int).toNat+0=k:=rfl;rw[hd,ht]
   cases n with
   |zero=>omega
   |succ n=>
    rw[qm c n (s.drop (k+1)) (by rw[List.length_drop];omega)];conv=>rhs;rw[k3]
    rw[sE _ k4]
theorem mj{c:UInt8}:∀{a:Str} (r:Str),c∉a->(a++c::r).takeWhile (fun b=>!decide (b=c))=a
 |[],r,_=>by simp
 |b::a,r,h=>by rw[List.mem_cons,not_or]at h;have hb:¬b=c:=fun e=>h.1 e.symm;rw[List.cons_append,List.takeWhile_cons];simp only[hb,decide_false,Bool.not_false,if_true];rw[mj r h.2]
theorem rV{c:UInt8}{s:Str}(h:c∉s):s.takeWhile (fun b=>!decide (b=c))=s:=by
 induction s with
 |nil=>rfl
 |cons b r ih=>rw[List.mem_cons,not_or]at h;have hb:¬b=c:=fun e=>h.1 e.symm;rw[List.takeWhile_cons];simp only[hb,decide_false,Bool.not_false,if_true];rw[ih h.2]
theorem DY(s:Str):Lib.cut s [45]=(iC s,lG s,mZ s):=by
 unfold Lib.cut;rw[Lib.index_one];by_cases h:Lib.indexByte s 45=-1
 ·have hm:=gw h;rw[h,if_neg (by decide)];have e:iC s=s:=rV hm;unfold lG mZ;rw[e,List.drop_eq_nil_of_le (by omega)];simp
 ·obtain⟨k,k1,k2,k3,k4⟩:=fx h;rw[k1,if_pos (by omega)]
  have e:iC s=s.take k:=by
   unfold iC;conv=>lhs;rw[k3]
   exact mj _ k4
  have hl:(s.take k).length=k:=by rw[List.length_take];omega
  unfold lG mZ;rw[e,hl];simp[k2]
theorem FW(s:Str)(c:Int)(h0:0<=c)(h1:c<=255):∀k:Nat,bM (fun b=>!decide (bI b=c)) s k=if Lib.indexByte s c.toNat.toUInt8=-1 then -1 else Lib.indexByte s c.toNat.toUInt8+k:=by
 have hb:∀b:UInt8,(bI b=c)↔b=c.toNat.toUInt8:=by
  intro b;unfold bI;constructor
  ·intro e;have:c.toNat=b.toNat:=by omega
   rw[this];simp
  ·intro e;rw[e];simp[Nat.toUInt8];omega
 induction s with
 |nil=>intro k;rfl
 |cons b r ih=>
  intro k;rw[bM];by_cases e:bI b=c
  ·have e2:=(hb b).1 e;rw[if_neg (by simp[e])];unfold Lib.indexByte;rw[e2];simp
  ·have e2:(b ==c.toNat.toUInt8)=false:=beq_eq_false_iff_ne.2 (fun q=>e ((hb b).2 q));rw[if_pos (by simp[e]),ih (k+1)];have hg:=Lib.indexByte_ge r c.toNat.toUInt8;have e3:Lib.indexByte (b::r) c.toNat.toUInt8=(if b ==c.toNat.toUInt8 then 0 else if Lib.indexByte r c.toNat.toUInt8 ==-1 then -1 else Lib.indexByte r c.toNat.toUInt8+1):=rfl;rw[e3,e2];simp only[Bool.false_eq_true,if_false,beq_iff_eq];by_cases q:Lib.indexByte r c.toNat.toUInt8=-1
   ·rw[if_pos q,if_pos q];rfl
   ·rw[if_neg q,if_neg q,if_neg (by omega)];omega
theorem vO(s:Str)(c:UInt8):decide (0<=Lib.indexByte s c)=decide (c∈s):=by
 have hg:=Lib.indexByte_ge s c;rw[decide_eq_decide];by_cases h:Lib.indexByte s c=-1
 ·exact⟨fun e=>by omega,fun e=>absurd e (gw h)⟩
 ·obtain⟨k,k1,k2,k3,k4⟩:=fx h;exact⟨fun _=>by rw[k3];simp,fun _=>by omega⟩
variable [Tabs] {P:Program} {ρ:Ren}
theorem Below.drawn(w:World)(n:Nat):Below w.heap.size w (w.drewN n):=⟨rfl,rfl,rfl,Nat.le_refl _,fun _ _=>rfl⟩
theorem After.news{w w':World}{pub:Nat->Nat->Prop}{e:Nat->Option CObj}(hp:jE w pub)(hd:∀id,e id=none)(hb:Below w.heap.size w w'){p:Nat->Prop}(hc:∀o,p o->∃v,w'.cell? ⟨w.heap.size,o,none⟩=some v) :
  After w pub e (aG (cJ [] [])) w' (fun b o=>pub b o∨(b=w.heap.size/\p o)) e where
 os:=hb.os
 tape:=hb.tape
 output:=hb.output
 size:=hb.size
 block b h _:=hb.block b h
 cell b o h _:=aE (hb.block b h) o
 kind b h _:=⟨bC (hb.block b h),fun o=>bj (hb.block b h) o⟩
 ext:=⟨fun _ c h=>⟨c,h,CLe.refl c⟩,fun _ _ h=>.inl h,fun b o h=>by obtain⟨v,hv⟩:=hp b o h;exact aE (hb.block b (bh hv)) o⟩
 fresh b o h:=by
  rcases h with h|⟨rfl,_⟩
  ·exact .inl h
  ·exact .inr (.inl (Nat.le_refl _))
 ok b o h:=by
  rcases h with h|⟨rfl,h⟩
  ·obtain⟨v,hv⟩:=hp b o h;exact⟨v,(aE (hb.block b (bh hv)) o).trans hv⟩
  ·exact hc o h
 slots id o h:=by simp[cJ,bd,aX]at h
 dom id _:=hd id
 inj i j c d b o h:=by rw[hd i]at h;cases h
theorem eX{f:Nat}{args:List AV}{A:AV}{ob:Option Prop}(h:∀(w:World)(pub:Nat->Nat->Prop)(vs:List Value),gS w pub (fun _=>none)->VL ⟨fun _=>none,w,pub⟩ args vs->Calls P f vs.toArray w fun e w'=>(∃v,e=.returned v/\∀Ω,V Ω A v)/\Below w.heap.size w w') :
  aF P f args [] ⟨ob,none,A,[]⟩:=by
 intro w pub e vs hp ht hv hs hd hi;have he:e=fun _=>none:=funext fun id=>hd id rfl;subst he;refine(h w pub vs ht hv).mono ?_;rintro en w' ⟨⟨v,rfl,hV⟩,hb⟩;exact⟨pub,_,And.intro (fun b pv u h=>by cases h) (And.intro (hV _) (After.below hp (fun _=>rfl) hb))⟩
theorem VL.two_str{Ω:Om}{a b:Str}{vs:List Value}(h:VL Ω [.str a,.str b] vs):vs=[.string ⟨a.toArray⟩,.string ⟨b.toArray⟩]/\a.length<=bS/\b.length<=bS:=by obtain⟨v1,v2,rfl,h1,h2⟩:=VL.two_inv h;obtain⟨rfl,l1⟩:=h1.str_inv;obtain⟨rfl,l2⟩:=h2.str_inv;exact⟨rfl,l1,l2⟩
def FX:Pat:=p2 .str .str fun a b=>⟨some (b=qh),none,.str (qi a),[]⟩
set_option maxRecDepth 100000 in
theorem DZ(b:UInt8):qh.contains b=nX b:=by
 have h:∀b:Fin 256,qh.contains (UInt8.ofNat b.val)=nX (UInt8.ofNat b.val):=by decide
 have:=h ⟨b.toNat,b.toNat_lt⟩;simpa using this
theorem yE{f:Nat}(L:Lays.n160 P ρ)(h116:(P.info? (ρ.t 116)).map (fun i=>(i.zero,i.size))=some (some (.agg (Array.replicate 256 (.bool false))),256))(hf:ρ.f 160=f)(he:aJ P f):ak P f FX:=by
 subst hf;refine bR he fun a b _ _ ho=>?_;have hb:=ho _ rfl;subst hb;refine eX fun w pub vs _ hv=>?_;obtain⟨rfl,l1,l2⟩:=VL.two_str hv;have l1':a.length<=9223372036854775807:=l1;refine(Any.strings_Trim_laid L h116 ⟨a.toArray⟩ ⟨qh.toArray⟩ w (by simpa[ByteArray.size]using l1') (by decide) (fun j b hj=>?_)).mono ?_
 ·have hd:∀b∈qh,b.toNat<128:=by decide
  exact hd b (List.mem_of_getElem? hj)
 ·rintro en w' ⟨rfl,hb⟩;refine⟨⟨_,rfl,fun Ω=>?_⟩,hb⟩;have e:Lib.trimS a qh=qi a:=by have ef:(fun b=>qh.contains b)=nX:=funext DZ;unfold Lib.trimS Lib.trimLeftS Lib.trimRightS qi;rw[ef]
  have e2:(⟨a.toArray⟩:ByteArray).data.toList=a:=rfl;have e3:(⟨qh.toArray⟩:ByteArray).data.toList=qh:=rfl;rw[e2,e3,e];exact .str _ (Nat.le_trans (DW a) l1)
def H3:Pat:=p2 .str .str fun a b=>⟨some (b=[45]/\a.length<4294967281),none,.tup [.str (iC a),.str (lG a),.bool (mZ a)],[]⟩
theorem BM{f:Nat}{m:Int}(L:Lays.n145 P ρ)(hm:Tabs.tab (ρ.g 1) 0 (.int .i64 m))(hf:ρ.f 145=f)(he:aJ P f):ak P f H3:=by
 subst hf;refine bR he fun a b _ _ ho=>?_;obtain⟨hb,hl⟩:=ho _ rfl;subst hb;refine eX fun w pub vs ht hv=>?_;obtain⟨rfl,l1,l2⟩:=VL.two_str hv;refine(Any.strings_Cut L ⟨a.toArray⟩ ⟨([45]:Str).toArray⟩ m w (by simpa[ByteArray.size]using hl) (ht.1 _ _ _ hm).2).mono ?_;rintro en w' ⟨rfl,n,rfl⟩;refine⟨⟨_,rfl,fun Ω=>?_⟩,Below.drawn w n⟩;have e2:(⟨a.toArray⟩:ByteArray).data.toList=a:=rfl;have e3:(⟨([45]:Str).toArray⟩:ByteArray).data.toList=[45]:=rfl;rw[e2,e3,DY];refine V.of_tup (VL.cons (.str _ ?_) (VL.cons (.str _ ?_) (VL.cons (.bool _) .nil)))
 ·exact Nat.le_trans (BL a) l1
 ·unfold lG;rw[List.length_drop];exact Nat.le_trans (Nat.sub_le _ _) l1
def vP:Pat:=p2 .str .str fun a b=>⟨some (b.length=1),none,.bool (decide (b.getD 0 0∈a)),[]⟩
theorem qn{f:Nat}(L:Lays.n144 P ρ)(hf:ρ.f 144=f)(he:aJ P f):ak P f vP:=by
 subst hf;refine bR he fun a b _ _ ho=>?_;have hb:b.length=1:=ho _ rfl
 obtain⟨c,rfl⟩:∃c,b=[c]:=by
  match b,hb with
  |[c],_=>exact⟨c,rfl⟩
 refine eX fun w pub vs ht hv=>?_;obtain⟨rfl,l1,l2⟩:=VL.two_str hv;refine(Any.strings_Contains_one L ⟨a.toArray⟩ c w).mono ?_;rintro en w' ⟨rfl,rfl⟩;refine⟨⟨_,rfl,fun Ω=>?_⟩,Below.refl _ _⟩;have e2:(⟨a.toArray⟩:ByteArray).data.toList=a:=rfl;rw[e2,vO];exact .bool _
def uf:Pat:=p2 .str (.int .u8) fun a c=>.ret (.int .i64 (DV a c))
theorem oK{f:Nat}(L:Lays.n137 P ρ)(hf:ρ.f 137=f)(he:aJ P f):ak P f uf:=by
 subst hf;refine bR he fun a c _ _ ho=>?_;refine eX fun w pub vs ht hv=>?_;obtain⟨v1,v2,rfl,h1,h2⟩:=VL.two_inv hv;obtain⟨rfl,l1⟩:=h1.str_inv;obtain⟨rfl,c1,c2⟩:=(show V _ (.int .u8 c) v2 from h2).int_inv;have c1:(0:Int)<=c:=c1;have c2:c<=(255:Int):=c2;refine(Any.strings_IndexByte L ⟨a.toArray⟩ c w).mono ?_;rintro en w' ⟨rfl,rfl⟩;refine⟨⟨_,rfl,fun Ω=>?_⟩,Below.refl _ _⟩;have e2:(⟨a.toArray⟩:ByteArray).data.toList=a:=rfl
 have e:DV a c=Lib.indexByte a c.toNat.toUInt8:=by
  unfold DV;rw[FW a c c1 c2 0];split
  ·rename_i h;exact h.symm
  ·simp
 rw[e2,e];have hg:=Lib.indexByte_ge a c.toNat.toUInt8
 have hu:Lib.indexByte a c.toNat.toUInt8<=(a.length:Int):=by
  by_cases q:Lib.indexByte a c.toNat.toUInt8=-1
  ·omega
  ·obtain⟨k,k1,k2,_⟩:=fx q;omega
 have l1':a.length<=9223372036854775807:=l1;have b1:inR .i64 (Lib.indexByte a c.toNat.toUInt8):=b8 (by omega) (by omega);exact .int _ _ b1.1 b1.2
def E0:Pat:=p2 .str .str fun a b=>⟨some (b=[46]/\a.length<4294967281),none,.lst .str (splitB 46 a) none,[]⟩
theorem qo(c:UInt8):∀(s:Str),∀x∈splitB c s,x.length<=s.length
 |[],x,h=>by rw[List.mem_singleton.1 h];exact Nat.le_refl _
 |b::r,x,h=>by
  have ih:=qo c r;unfold splitB at h;split at h
  ·rcases List.mem_cons.1 h with e|e
   ·rw[e];exact Nat.zero_le _
   ·have:=ih x e;rw[List.length_cons];omega
  ·split at h
   ·rw[List.mem_singleton.1 h,List.length_cons];simp
   ·rename_i p ps e0;rcases List.mem_cons.1 h with e|e
    ·have:=ih p (by rw[e0];exact List.mem_cons_self ..);rw[e,List.length_cons,List.length_cons];omega
    ·have:=ih x (by rw[e0];exact List.mem_cons_of_mem _ e);rw[List.length_cons];omega
theorem vQ{f:Nat}{m:Int}(L:Lays.n146 P ρ)(hi9:(P.info? (ρ.t 9)).map (fun i=>(i.zero,i.size,i.bytes))=some (some (.string ByteArray.empty),1,16))(hm:Tabs.tab (ρ.g 1) 0 (.int .i64 m))(hf:ρ.f 146=f)(he:aJ P f):ak P f E0:=by
 subst hf;refine bR he fun a b _ _ ho=>?_;obtain⟨hb,hl⟩:=ho _ rfl;subst hb;intro w pub e vs hp ht hv hs hd hi;obtain⟨rfl,l1,l2⟩:=VL.two_str hv;have l1':a.length<=9223372036854775807:=l1;refine(Any.strings_Split L hi9 ⟨a.toArray⟩ ⟨([46]:Str).toArray⟩ m w (by simpa[ByteArray.size]using hl) (ht.1 _ _ _ hm).2 (by decide)).mono ?_;rintro en w' ⟨rfl,rfl⟩;have e2:(⟨a.toArray⟩:ByteArray).data.toList=a:=rfl;have e3:(⟨([46]:Str).toArray⟩:ByteArray).data.toList=[46]:=rfl;have hcount:Lib.countB ⟨a.toArray⟩ ⟨([46]:Str).toArray⟩=a.count 46:=by show Lib.count a [46]=_;rw[Lib.count_one]
 have hsp:(Lib.splitB ⟨([46]:Str).toArray⟩ 0 (Lib.countB ⟨a.toArray⟩ ⟨([46]:Str).toArray⟩) ⟨a.toArray⟩).map (·.data.toList)=splitB 46 a:=by rw[Lib.splitB_data,hcount];exact qm 46 a.length a (Nat.le_refl _)
 generalize Lib.splitB ⟨([46]:Str).toArray⟩ 0 (Lib.countB ⟨a.toArray⟩ ⟨([46]:Str).toArray⟩) ⟨a.toArray⟩=bs at hsp
 have hcl:(splitB 46 a).length=Lib.countB ⟨a.toArray⟩ ⟨([46]:Str).toArray⟩+1:=by
  rw[hcount]
  have:∀s:Str,(splitB 46 s).length=s.count 46+1:=by
   intro s
   induction s with
   |nil=>rfl
   |cons b r ih=>
    unfold splitB;split
    ·rename_i h;subst h;rw[List.length_cons,ih,List.count_cons_self]
    ·rename_i h;rw[List.count_cons_of_ne h];split
     ·rename_i e0;rw[e0]at ih;simp at ih
     ·rename_i p ps e0;rw[e0]at ih;simpa using ih
  exact this a
 have hbl:bs.length=(splitB 46 a).length:=by rw[<-hsp,List.length_map]
 have hsz:=lp 46 a;rw[<-hcl];have hnew:(w.alloc (.cells (bs.map Value.string).toArray (ρ.t 9))).heap[w.heap.size]?=some (.cells (bs.map Value.string).toArray (ρ.t 9) (0,0)):=cM _ _;have hbw:Below w.heap.size w (w.alloc (.cells (bs.map Value.string).toArray (ρ.t 9))):=⟨rfl,rfl,rfl,by simp,fun b hb=>fV _ _ _ hb⟩;refine⟨fun b o=>pub b o∨(b=w.heap.size/\o<bs.length),e,And.intro (fun b pv u h=>by cases h) (And.intro ?_ (After.news hp (fun id=>hd id rfl) hbw (p:=fun o=>o<bs.length) (fun o ho=>?_)))⟩
 ·refine pG (Ω:=⟨e,w.alloc (.cells (bs.map Value.string).toArray (ρ.t 9)),fun b o=>pub b o∨(b=w.heap.size/\o<bs.length)⟩) (τ:=.str) (xs:=splitB 46 a) (vs:=bs.map Value.string) hnew ?_ ?_ (Nat.le_refl _) (by unfold bS;omega) (fun i hi=>.inr ⟨rfl,by rw[hbl];simpa[ai]using hi⟩) (fun id hid=>by cases hid)
  ·have e1:(splitB 46 a).length *ai .str=bs.length:=by rw[hbl];exact Nat.mul_one _
   rw[e1];exact List.take_of_length_le (by simp)
  ·have ef:bA .str (splitB 46 a)=(splitB 46 a).map AV.str:=by unfold bA;rw[List.map_eq_flatMap];rfl
   rw[ef,<-hsp];refine⟨by simp,fun j c v hc hv=>?_⟩;rw[List.map_map,List.getElem?_map,Option.map_eq_some_iff]at hc;rw[List.getElem?_map,Option.map_eq_some_iff]at hv;obtain⟨x,hx,rfl⟩:=hc;obtain⟨y,hy,rfl⟩:=hv;rw[hx]at hy;cases hy;have hmem:x.data.toList∈splitB 46 a:=by rw[<-hsp];exact List.mem_map_of_mem (List.mem_of_getElem? hx)
   have hle:=qo 46 a _ hmem;have:=V.str (Ω:=⟨e,w.alloc (.cells (bs.map Value.string).toArray (ρ.t 9)),fun b o=>pub b o∨(b=w.heap.size/\o<bs.length)⟩) x.data.toList (Nat.le_trans hle l1);exact this
 ·rw[aU hnew];exact⟨_,Array.getElem?_eq_getElem (by simpa using ho)⟩
def ml[Tabs](g3 g4:Nat):Prop:=
 (∀c,c<256->Tabs.tab g3 c (.int .u8 (Lib.firstT c)))/\(∀i,i<16->Tabs.tab g4 (2 *i) (.int .u8 (Lib.accLo i))/\Tabs.tab g4 (2 *i+1) (.int .u8 (Lib.accHi i)))
theorem ml.tabs{g3 g4:Nat}(h:ml g3 g4){w:World}{pub:Nat->Nat->Prop}{e:Nat->Option CObj}(ht:gS w pub e):Lib.Utf8Tabs g3 g4 w:=
 ⟨fun c hc=>(ht.1 _ _ _ (h.1 c hc)).2,fun i hi=>⟨(ht.1 _ _ _ (h.2 i hi).1).2,(ht.1 _ _ _ (h.2 i hi).2).2⟩⟩
theorem FY(s:Str)(k:Nat)(h:k<s.length):((⟨s.toArray⟩:ByteArray).get! k)=s.getD k 0:=by rw[Utf8W.get!_of_lt _ k (by simpa[ByteArray.size]using h)];have:(⟨s.toArray⟩:ByteArray)[k]'(by simpa[ByteArray.size]using h)=s[k]:=rfl;rw[this];simp[List.getD_eq_getElem?_getD,h]
theorem vR(n b0 b1 b2 b3 c1 c2 c3:Nat)(h1:1<n->b1=c1)(h2:2<n->b2=c2)(h3:3<n->b3=c3):Lib.decodeN n b0 b1 b2 b3=Lib.decodeN n b0 c1 c2 c3:=by
 rcases Nat.lt_or_ge 3 n with k|k
 ·rw[h1 (by omega),h2 (by omega),h3 k]
 rcases Nat.lt_or_ge 2 n with k2|k2
 ·rw[h1 (by omega),h2 k2];unfold Lib.decodeN;have e:¬3<n:=by omega
  simp only[e,false_and,and_false,if_false]
 rcases Nat.lt_or_ge 1 n with k1|k1
 ·rw[h1 k1];unfold Lib.decodeN;have e:¬3<n:=by omega
  have e':¬2<n:=by omega
  simp only[e,e',false_and,and_false,if_false]
 ·unfold Lib.decodeN;have e:¬3<n:=by omega
  have e':¬2<n:=by omega
  have e'':¬1<n:=by omega
  simp only[e,e',e'',false_and,and_false,if_false]
theorem nY(s:Str):Lib.decodeGo ⟨s.toArray⟩=ju s:=by
 unfold Lib.decodeGo ju;have hs:(⟨s.toArray⟩:ByteArray).size=s.length:=by simp[ByteArray.size]
 rw[hs];by_cases h:s=[]
 ·subst h;rfl
 have hl:=List.length_pos_iff.2 h;rw[if_neg (by omega),if_neg h,Lib.decode_at,hs,Nat.sub_zero,FY s 0 hl];exact vR _ _ _ _ _ _ _ _ (fun k=>by rw[FY s 1 k]) (fun k=>by rw[FY s 2 k]) (fun k=>by rw[FY s 3 k])
def rW:Pat:=p1 .str fun s=>.ret (.tup [.int .i32 ((ju s).1:Int),.int .i64 ((ju s).2:Int)])
theorem yF(s:Str):(ju s).1<=1114111/\(ju s).2<=s.length:=by
 by_cases h:s=[]
 ·subst h;decide
 ·have:=qj h;exact⟨this.2.2.1,this.2.2.2.2⟩
theorem n5{f:Nat}(L:Lays.n197 P ρ)(hu:ml (ρ.g 3) (ρ.g 4))(hf:ρ.f 197=f)(he:aJ P f):ak P f rW:=by subst hf;refine bp he fun s _ ho=>?_;refine eX fun w pub vs ht hv=>?_;obtain⟨v,rfl,h1⟩:=VL.one_inv hv;obtain⟨rfl,hl⟩:=h1.str_inv;have hl':s.length<=9223372036854775807:=hl;refine(Any.utf8_DecodeRuneInString L ⟨s.toArray⟩ w (hu.tabs ht)).mono ?_;rintro en w' ⟨rfl,hb⟩;refine⟨⟨_,rfl,fun Ω=>?_⟩,hb⟩;rw[nY];obtain⟨d1,d2⟩:=yF s;exact V.of_tup (VL.cons (.int .i32 _ (by show(-2147483648:Int)<=_;omega) (by show _<=(2147483647:Int);omega)) (VL.cons (.int .i64 _ (by show(-9223372036854775808:Int)<=_;omega) (by show _<=(9223372036854775807:Int);omega)) .nil))
theorem qq:∀(n:Nat)(l:Str)(k:Nat),Lib.validGoD n l=(iW n l k).isNone
 |0,_,_=>rfl
 |n+1,l,k=>by
  unfold Lib.validGoD;rw[iW];by_cases h:l=[]
  ·rw[if_pos h,if_pos h];rfl
  rw[if_neg h,if_neg h]
  have hd:Lib.decodeL l=ju l:=by
   rw[<-nY];unfold Lib.decodeL Lib.decodeGo
   rw[if_neg (by
    have:=List.length_pos_iff.2 h;simp[ByteArray.size];exact h)]
  obtain⟨b1,b2,_⟩:=qj h;rw[hd];by_cases u:ib l=0
  ·rw[if_pos (b1.2 u),if_pos u];rfl
  ·rw[if_neg (fun e=>u (b1.1 e)),if_neg u,b2 u];exact qq n _ _
def E1:Pat:=p1 .str fun s=>.ret (.bool (km s).isNone)
theorem vS{f:Nat}(L:Lays.n196 P ρ)(hu:ml (ρ.g 3) (ρ.g 4))(hf:ρ.f 196=f)(he:aJ P f):ak P f E1:=by subst hf;refine bp he fun s _ ho=>?_;refine eX fun w pub vs ht hv=>?_;obtain⟨v,rfl,h1⟩:=VL.one_inv hv;obtain⟨rfl,hl⟩:=h1.str_inv;have hl':s.length<=9223372036854775807:=hl;refine(Any.utf8_ValidString L ⟨s.toArray⟩ w (by simpa[ByteArray.size]using hl') (hu.tabs ht)).mono ?_;rintro en w' ⟨rfl,hb⟩;refine⟨⟨_,rfl,fun Ω=>?_⟩,hb⟩;have e:Lib.validD s=(km s).isNone:=qq s.length s 0;have e2:(⟨s.toArray⟩:ByteArray).data.toList=s:=rfl;rw[e2,e];exact .bool _
end Go.AL
end
section
namespace Go.Proofs
open Go.Proofs.Tryz
open Go.Shelf
def Tryz.lays160_ren:Go.Shelf.Ren:=⟨fun|160=>129|232=>188|231=>187|227=>189|234=>191|233=>190|236=>193|235=>192|228=>234|271=>236|151=>235|197=>186|120=>263|152=>262|260=>233|137=>199|119=>289|224=>290|225=>291|217=>242|266=>272|n=>n,fun|9=>9|4=>4|3=>3|5=>5|117=>188|116=>187|0=>0|124=>191|21=>21|105=>183|46=>131|119=>221|139=>224|138=>223|n=>n,fun|3=>1|4=>2|n=>n⟩
theorem Tryz.lays160:Go.Proofs.Lays.n160 prog Tryz.lays160_ren:={
 mixed:=by kernel_rfl
 f119:=Xt func289
 f120:=Xt func263
 f137:=Xt func199
 f151:=Xt func235
 f152:=Xt func262
 f160:=Xt func129
 f197:=Xt func186
 f217:=Xt func242
 f224:=Xt func290
 f225:=Xt func291
 f227:=Xt func189
 f228:=Xt func234
 f231:=Xt func187
 f232:=Xt func188
 f233:=Xt func190
 f234:=Xt func191
 f235:=Xt func192
 f236:=Xt func193
 f260:=Xt func233
 f266:=Xt func272
 f271:=Xt func236
 t0:=underlying0
 a0:=isAgg0
 z0:=sizeOf0
 v0:=zeroValue0
 t3:=underlying3
 a3:=isAgg3
 z3:=sizeOf3
 v3:=zeroValue3
 t4:=underlying4
 a4:=isAgg4
 z4:=sizeOf4
 v4:=zeroValue4
 t5:=underlying5
 a5:=isAgg5
 z5:=sizeOf5
 v5:=zeroValue5
 t9:=underlying9
 a9:=isAgg9
 z9:=sizeOf9
 v9:=zeroValue9
 t21:=underlying21
 a21:=isAgg21
 z21:=sizeOf21
 v21:=zeroValue21
 t46:=underlying131
 a46:=isAgg131
 z46:=sizeOf131
 v46:=zeroValue131
 t105:=underlying183
 a105:=isAgg183
 z105:=sizeOf183
 v105:=zeroValue183
 t116:=underlying187
 a116:=isAgg187
 z116:=sizeOf187
 t117:=underlying188
 a117:=isAgg188
 z117:=sizeOf188
 v117:=zeroValue188
 t119:=underlying221
 a119:=isAgg221
 z119:=sizeOf221
 t124:=underlying191
 a124:=isAgg191
 z124:=sizeOf191
 v124:=zeroValue191
 t138:=underlying223
 a138:=isAgg223
 z138:=sizeOf223
 v138:=zeroValue223
 t139:=underlying224
 a139:=isAgg224
 z139:=sizeOf224
 v139:=zeroValue224
 g3:=by kernel_rfl
 g4:=by kernel_rfl}
def Tryz.lays145_ren:Go.Shelf.Ren:=⟨fun|145=>194|220=>237|219=>264|217=>242|225=>291|224=>290|267=>292|266=>272|314=>304|n=>n,fun|9=>9|4=>4|59=>192|3=>3|5=>5|46=>131|146=>284|51=>180|n=>n,fun|1=>0|n=>n⟩
theorem Tryz.lays145:Go.Proofs.Lays.n145 prog Tryz.lays145_ren:={
 mixed:=by kernel_rfl
 f145:=Xt func194
 f217:=Xt func242
 f219:=Xt func264
 f220:=Xt func237
 f224:=Xt func290
 f225:=Xt func291
 f266:=Xt func272
 f267:=Xt func292
 f314:=Xt func304
 t3:=underlying3
 a3:=isAgg3
 z3:=sizeOf3
 v3:=zeroValue3
 t4:=underlying4
 a4:=isAgg4
 z4:=sizeOf4
 v4:=zeroValue4
 t5:=underlying5
 a5:=isAgg5
 z5:=sizeOf5
 v5:=zeroValue5
 t9:=underlying9
 a9:=isAgg9
 z9:=sizeOf9
 v9:=zeroValue9
 t46:=underlying131
 a46:=isAgg131
 z46:=sizeOf131
 v46:=zeroValue131
 t51:=underlying180
 a51:=isAgg180
 z51:=sizeOf180
 v51:=zeroValue180
 t59:=underlying192
 a59:=isAgg192
 z59:=sizeOf192
 v59:=zeroValue192
 t146:=underlying284
 a146:=isAgg284
 z146:=sizeOf284
 v146:=zeroValue284
 g1:=by kernel_rfl}
def Tryz.lays146_ren:Go.Shelf.Ren:=⟨fun|146=>195|221=>238|268=>265|138=>266|143=>243|195=>293|197=>186|218=>294|219=>264|260=>233|217=>242|225=>291|224=>290|267=>292|266=>272|314=>304|n=>n,fun|9=>9|31=>22|3=>3|4=>4|0=>0|105=>183|21=>21|5=>5|46=>131|119=>221|139=>224|138=>223|146=>284|51=>180|n=>n,fun|1=>0|3=>1|4=>2|n=>n⟩
theorem Tryz.lays146:Go.Proofs.Lays.n146 prog Tryz.lays146_ren:={
 mixed:=by kernel_rfl
 f138:=Xt func266
 f143:=Xt func243
 f146:=Xt func195
 f195:=Xt func293
 f197:=Xt func186
 f217:=Xt func242
 f218:=Xt func294
 f219:=Xt func264
 f221:=Xt func238
 f224:=Xt func290
 f225:=Xt func291
 f260:=Xt func233
 f266:=Xt func272
 f267:=Xt func292
 f268:=Xt func265
 f314:=Xt func304
 t0:=underlying0
 a0:=isAgg0
 z0:=sizeOf0
 v0:=zeroValue0
 t3:=underlying3
 a3:=isAgg3
 z3:=sizeOf3
 v3:=zeroValue3
 t4:=underlying4
 a4:=isAgg4
 z4:=sizeOf4
 v4:=zeroValue4
 t5:=underlying5
 a5:=isAgg5
 z5:=sizeOf5
 v5:=zeroValue5
 t9:=underlying9
 a9:=isAgg9
 z9:=sizeOf9
 v9:=zeroValue9
 t21:=underlying21
 a21:=isAgg21
 z21:=sizeOf21
 v21:=zeroValue21
 t31:=underlying22
 a31:=isAgg22
 z31:=sizeOf22
 v31:=zeroValue22
 t46:=underlying131
 a46:=isAgg131
 z46:=sizeOf131
 v46:=zeroValue131
 t51:=underlying180
 a51:=isAgg180
 z51:=sizeOf180
 v51:=zeroValue180
 t105:=underlying183
 a105:=isAgg183
 z105:=sizeOf183
 v105:=zeroValue183
 t119:=underlying221
 a119:=isAgg221
 z119:=sizeOf221
 t138:=underlying223
 a138:=isAgg223
 z138:=sizeOf223
 v138:=zeroValue223
 t139:=underlying224
 a139:=isAgg224
 z139:=sizeOf224
 v139:=zeroValue224
 t146:=underlying284
 a146:=isAgg284
 z146:=sizeOf284
 v146:=zeroValue284
 g1:=by kernel_rfl
 g3:=by kernel_rfl
 g4:=by kernel_rfl}
def Tryz.lays144_ren:Go.Shelf.Ren:=⟨fun|144=>201|143=>243|219=>264|217=>242|225=>291|224=>290|267=>292|266=>272|314=>304|n=>n,fun|9=>9|4=>4|3=>3|5=>5|46=>131|146=>284|51=>180|n=>n,fun|1=>0|n=>n⟩
theorem Tryz.lays144:Go.Proofs.Lays.n144 prog Tryz.lays144_ren:={
 mixed:=by kernel_rfl
 f143:=Xt func243
 f144:=Xt func201
 f217:=Xt func242
 f219:=Xt func264
 f224:=Xt func290
 f225:=Xt func291
 f266:=Xt func272
 f267:=Xt func292
 f314:=Xt func304
 t3:=underlying3
 a3:=isAgg3
 z3:=sizeOf3
 v3:=zeroValue3
 t4:=underlying4
 a4:=isAgg4
 z4:=sizeOf4
 v4:=zeroValue4
 t5:=underlying5
 a5:=isAgg5
 z5:=sizeOf5
 v5:=zeroValue5
 t9:=underlying9
 a9:=isAgg9
 z9:=sizeOf9
 v9:=zeroValue9
 t46:=underlying131
 a46:=isAgg131
 z46:=sizeOf131
 v46:=zeroValue131
 t51:=underlying180
 a51:=isAgg180
 z51:=sizeOf180
 v51:=zeroValue180
 t146:=underlying284
 a146:=isAgg284
 z146:=sizeOf284
 v146:=zeroValue284
 g1:=by kernel_rfl}
def Tryz.lays137_ren:Go.Shelf.Ren:=⟨fun|137=>199|217=>242|266=>272|n=>n,fun|9=>9|5=>5|3=>3|n=>n,fun|n=>n⟩
theorem Tryz.lays137:Go.Proofs.Lays.n137 prog Tryz.lays137_ren:={
 mixed:=by kernel_rfl
 f137:=Xt func199
 f217:=Xt func242
 f266:=Xt func272
 t3:=underlying3
 a3:=isAgg3
 z3:=sizeOf3
 v3:=zeroValue3
 t5:=underlying5
 a5:=isAgg5
 z5:=sizeOf5
 v5:=zeroValue5
 t9:=underlying9
 a9:=isAgg9
 z9:=sizeOf9
 v9:=zeroValue9}
def Tryz.lays197_ren:Go.Shelf.Ren:=⟨fun|197=>186|260=>233|n=>n,fun|9=>9|21=>21|3=>3|4=>4|5=>5|105=>183|119=>221|0=>0|46=>131|139=>224|138=>223|n=>n,fun|3=>1|4=>2|n=>n⟩
theorem Tryz.lays197:Go.Proofs.Lays.n197 prog Tryz.lays197_ren:={
 mixed:=by kernel_rfl
 f197:=Xt func186
 f260:=Xt func233
 t0:=underlying0
 a0:=isAgg0
 z0:=sizeOf0
 v0:=zeroValue0
 t3:=underlying3
 a3:=isAgg3
 z3:=sizeOf3
 v3:=zeroValue3
 t4:=underlying4
 a4:=isAgg4
 z4:=sizeOf4
 v4:=zeroValue4
 t5:=underlying5
 a5:=isAgg5
 z5:=sizeOf5
 v5:=zeroValue5
 t9:=underlying9
 a9:=isAgg9
 z9:=sizeOf9
 v9:=zeroValue9
 t21:=underlying21
 a21:=isAgg21
 z21:=sizeOf21
 v21:=zeroValue21
 t46:=underlying131
 a46:=isAgg131
 z46:=sizeOf131
 v46:=zeroValue131
 t105:=underlying183
 a105:=isAgg183
 z105:=sizeOf183
 v105:=zeroValue183
 t119:=underlying221
 a119:=isAgg221
 z119:=sizeOf221
 t138:=underlying223
 a138:=isAgg223
 z138:=sizeOf223
 v138:=zeroValue223
 t139:=underlying224
 a139:=isAgg224
 z139:=sizeOf224
 v139:=zeroValue224
 g3:=by kernel_rfl
 g4:=by kernel_rfl}
def Tryz.lays196_ren:Go.Shelf.Ren:=⟨fun|196=>165|259=>223|n=>n,fun|9=>9|4=>4|3=>3|5=>5|12=>12|119=>221|0=>0|46=>131|139=>224|138=>223|53=>182|n=>n,fun|3=>1|4=>2|n=>n⟩
theorem Tryz.lays196:Go.Proofs.Lays.n196 prog Tryz.lays196_ren:={
 mixed:=by kernel_rfl
 f196:=Xt func165
 f259:=Xt func223
 t0:=underlying0
 a0:=isAgg0
 z0:=sizeOf0
 v0:=zeroValue0
 t3:=underlying3
 a3:=isAgg3
 z3:=sizeOf3
 v3:=zeroValue3
 t4:=underlying4
 a4:=isAgg4
 z4:=sizeOf4
 v4:=zeroValue4
 t5:=underlying5
 a5:=isAgg5
 z5:=sizeOf5
 v5:=zeroValue5
 t9:=underlying9
 a9:=isAgg9
 z9:=sizeOf9
 v9:=zeroValue9
 t12:=underlying12
 a12:=isAgg12
 z12:=sizeOf12
 v12:=zeroValue12
 t46:=underlying131
 a46:=isAgg131
 z46:=sizeOf131
 v46:=zeroValue131
 t53:=underlying182
 a53:=isAgg182
 z53:=sizeOf182
 v53:=zeroValue182
 t119:=underlying221
 a119:=isAgg221
 z119:=sizeOf221
 t138:=underlying223
 a138:=isAgg223
 z138:=sizeOf223
 v138:=zeroValue223
 t139:=underlying224
 a139:=isAgg224
 z139:=sizeOf224
 v139:=zeroValue224
 g3:=by kernel_rfl
 g4:=by kernel_rfl}
end Go.Proofs
end
section
namespace Go.Proofs
open Go.Proofs.Tryz
open Go.Shelf
def Tryz.lays190_ren:Go.Shelf.Ren:=⟨fun|190=>225|125=>112|258=>260|128=>181|129=>182|302=>280|303=>281|304=>282|305=>283|306=>284|307=>285|308=>286|309=>287|310=>288|333=>300|329=>229|330=>230|334=>301|335=>302|336=>303|344=>308|n=>n,fun|31=>22|9=>9|3=>3|46=>131|0=>0|51=>180|53=>182|4=>4|183=>173|182=>172|131=>177|5=>5|218=>227|222=>231|228=>246|229=>66|n=>n,fun|n=>n⟩
theorem Tryz.lays190:Go.Proofs.Lays.n190 prog Tryz.lays190_ren:={
 mixed:=by kernel_rfl
 f125:=Xt func112
 f128:=Xt func181
 f129:=Xt func182
 f190:=Xt func225
 f258:=Xt func260
 f302:=Xt func280
 f303:=Xt func281
 f304:=Xt func282
 f305:=Xt func283
 f306:=Xt func284
 f307:=Xt func285
 f308:=Xt func286
 f309:=Xt func287
 f310:=Xt func288
 f329:=Xt func229
 f330:=Xt func230
 f333:=Xt func300
 f334:=Xt func301
 f335:=Xt func302
 f336:=Xt func303
 f344:=Xt func308
 t0:=underlying0
 a0:=isAgg0
 z0:=sizeOf0
 v0:=zeroValue0
 t3:=underlying3
 a3:=isAgg3
 z3:=sizeOf3
 v3:=zeroValue3
 t4:=underlying4
 a4:=isAgg4
 z4:=sizeOf4
 v4:=zeroValue4
 t5:=underlying5
 a5:=isAgg5
 z5:=sizeOf5
 v5:=zeroValue5
 t9:=underlying9
 a9:=isAgg9
 z9:=sizeOf9
 v9:=zeroValue9
 t31:=underlying22
 a31:=isAgg22
 z31:=sizeOf22
 v31:=zeroValue22
 t46:=underlying131
 a46:=isAgg131
 z46:=sizeOf131
 v46:=zeroValue131
 t51:=underlying180
 a51:=isAgg180
 z51:=sizeOf180
 v51:=zeroValue180
 t53:=underlying182
 a53:=isAgg182
 z53:=sizeOf182
 v53:=zeroValue182
 t131:=underlying177
 a131:=isAgg177
 z131:=sizeOf177
 v131:=zeroValue177
 t182:=underlying172
 a182:=isAgg172
 z182:=sizeOf172
 v182:=zeroValue172
 t183:=underlying173
 a183:=isAgg173
 z183:=sizeOf173
 v183:=zeroValue173
 t218:=underlying227
 a218:=isAgg227
 z218:=sizeOf227
 v218:=zeroValue227
 t222:=underlying231
 a222:=isAgg231
 z222:=sizeOf231
 v222:=zeroValue231
 t228:=underlying246
 a228:=isAgg246
 z228:=sizeOf246
 v228:=zeroValue246
 t229:=underlying66
 a229:=isAgg66
 z229:=sizeOf66
 v229:=zeroValue66}
def Tryz.lays194_ren:Go.Shelf.Ren:=⟨fun|194=>169|n=>n,fun|31=>22|9=>9|3=>3|4=>4|0=>0|n=>n,fun|n=>n⟩
theorem Tryz.lays194:Go.Proofs.Lays.n194 prog Tryz.lays194_ren:={
 mixed:=by kernel_rfl
 f194:=Xt func169
 t0:=underlying0
 a0:=isAgg0
 z0:=sizeOf0
 v0:=zeroValue0
 t3:=underlying3
 a3:=isAgg3
 z3:=sizeOf3
 v3:=zeroValue3
 t4:=underlying4
 a4:=isAgg4
 z4:=sizeOf4
 v4:=zeroValue4
 t9:=underlying9
 a9:=isAgg9
 z9:=sizeOf9
 v9:=zeroValue9
 t31:=underlying22
 a31:=isAgg22
 z31:=sizeOf22
 v31:=zeroValue22}
def Tryz.lays172_ren:Go.Shelf.Ren:=⟨fun|172=>197|244=>239|245=>240|247=>267|279=>268|280=>269|281=>270|282=>271|287=>295|316=>296|171=>298|205=>297|321=>305|322=>306|243=>307|246=>309|283=>310|284=>311|285=>312|286=>313|129=>182|317=>314|318=>315|319=>316|320=>317|337=>318|338=>319|n=>n,fun|9=>9|3=>3|75=>197|76=>198|4=>4|5=>5|167=>250|37=>164|0=>0|85=>251|2=>2|168=>253|53=>182|175=>276|46=>131|210=>280|127=>287|145=>290|143=>288|21=>21|171=>293|173=>295|212=>298|51=>180|20=>20|213=>299|232=>300|233=>301|80=>302|n=>n,fun|15=>3|16=>4|17=>5|18=>6|19=>7|n=>n⟩
theorem Tryz.lays172:Go.Proofs.Lays.n172 prog Tryz.lays172_ren:={
 mixed:=by kernel_rfl
 f129:=Xt func182
 f171:=Xt func298
 f172:=Xt func197
 f205:=Xt func297
 f243:=Xt func307
 f244:=Xt func239
 f245:=Xt func240
 f246:=Xt func309
 f247:=Xt func267
 f279:=Xt func268
 f280:=Xt func269
 f281:=Xt func270
 f282:=Xt func271
 f283:=Xt func310
 f284:=Xt func311
 f285:=Xt func312
 f286:=Xt func313
 f287:=Xt func295
 f316:=Xt func296
 f317:=Xt func314
 f318:=Xt func315
 f319:=Xt func316
 f320:=Xt func317
 f321:=Xt func305
 f322:=Xt func306
 f337:=Xt func318
 f338:=Xt func319
 t0:=underlying0
 a0:=isAgg0
 z0:=sizeOf0
 v0:=zeroValue0
 t2:=underlying2
 a2:=isAgg2
 z2:=sizeOf2
 v2:=zeroValue2
 t3:=underlying3
 a3:=isAgg3
 z3:=sizeOf3
 v3:=zeroValue3
 t4:=underlying4
 a4:=isAgg4
 z4:=sizeOf4
 v4:=zeroValue4
 t5:=underlying5
 a5:=isAgg5
 z5:=sizeOf5
 v5:=zeroValue5
 t9:=underlying9
 a9:=isAgg9
 z9:=sizeOf9
 v9:=zeroValue9
 t20:=underlying20
 a20:=isAgg20
 z20:=sizeOf20
 v20:=zeroValue20
 t21:=underlying21
 a21:=isAgg21
 z21:=sizeOf21
 v21:=zeroValue21
 t37:=underlying164
 a37:=isAgg164
 z37:=sizeOf164
 v37:=zeroValue164
 t46:=underlying131
 a46:=isAgg131
 z46:=sizeOf131
 v46:=zeroValue131
 t51:=underlying180
 a51:=isAgg180
 z51:=sizeOf180
 v51:=zeroValue180
 t53:=underlying182
 a53:=isAgg182
 z53:=sizeOf182
 v53:=zeroValue182
 t75:=underlying197
 a75:=isAgg197
 z75:=sizeOf197
 v75:=zeroValue197
 t76:=underlying198
 a76:=isAgg198
 z76:=sizeOf198
 v76:=zeroValue198
 t85:=underlying251
 a85:=isAgg251
 z85:=sizeOf251
 v85:=zeroValue251
 t127:=underlying287
 a127:=isAgg287
 z127:=sizeOf287
 v127:=zeroValue287
 t143:=underlying288
 a143:=isAgg288
 z143:=sizeOf288
 v143:=zeroValue288
 t145:=underlying290
 a145:=isAgg290
 z145:=sizeOf290
 v145:=zeroValue290
 t167:=underlying250
 a167:=isAgg250
 z167:=sizeOf250
 v167:=zeroValue250
 t168:=underlying253
 a168:=isAgg253
 z168:=sizeOf253
 v168:=zeroValue253
 t171:=underlying293
 a171:=isAgg293
 z171:=sizeOf293
 v171:=zeroValue293
 t173:=underlying295
 a173:=isAgg295
 z173:=sizeOf295
 v173:=zeroValue295
 t175:=underlying276
 a175:=isAgg276
 z175:=sizeOf276
 v175:=zeroValue276
 t210:=underlying280
 a210:=isAgg280
 z210:=sizeOf280
 v210:=zeroValue280
 t212:=underlying298
 a212:=isAgg298
 z212:=sizeOf298
 v212:=zeroValue298
 t213:=underlying299
 a213:=isAgg299
 z213:=sizeOf299
 t232:=underlying300
 a232:=isAgg300
 z232:=sizeOf300
 v232:=zeroValue300
 t233:=underlying301
 a233:=isAgg301
 z233:=sizeOf301
 v233:=zeroValue301
 g15:=by kernel_rfl
 g16:=by kernel_rfl
 g17:=by kernel_rfl
 g18:=by kernel_rfl
 g19:=by kernel_rfl}
def Tryz.sorted200_ren:Go.Shelf.Ren:=⟨fun|6=>167|8=>224|9=>225|11=>259|13=>112|12=>260|23=>181|24=>182|14=>280|15=>281|16=>282|17=>283|18=>284|19=>285|20=>286|21=>287|22=>288|25=>300|26=>229|27=>230|28=>301|29=>302|30=>303|31=>308|n=>n,fun|26=>9|28=>168|24=>22|0=>0|3=>3|37=>131|48=>180|50=>182|4=>4|40=>173|39=>172|45=>177|5=>5|9=>9|51=>227|55=>231|57=>246|58=>66|33=>122|n=>n,fun|n=>n⟩
theorem Tryz.sorted200:Go.Proofs.SlLaysZ.n6 prog Tryz.sorted200_ren:={
 mixed:=by kernel_rfl
 f6:=⟨Tryz.f167.name,by decide,Xt func167⟩
 f8:=⟨Tryz.f224.name,by decide,Xt func224⟩
 f11:=⟨Tryz.f259.name,by decide,Xt func259⟩
 t0:=underlying0
 a0:=isAgg0
 z0:=sizeOf0
 v0:=zeroValue0
 t24:=underlying22
 a24:=isAgg22
 z24:=sizeOf22
 v24:=zeroValue22
 t26:=underlying9
 a26:=isAgg9
 z26:=sizeOf9
 v26:=zeroValue9
 t28:=underlying168
 a28:=isAgg168
 z28:=sizeOf168
 v28:=zeroValue168
 i26:=by kernel_rfl}
def Tryz.lays106_ren:Go.Shelf.Ren:=⟨fun|106=>63|213=>113|265=>183|n=>n,fun|9=>9|3=>3|n=>n,fun|n=>n⟩
theorem Tryz.lays106:Go.Proofs.Lays.n106 prog Tryz.lays106_ren:={
 mixed:=by kernel_rfl
 f106:=Xt func63
 f213:=Xt func113
 f265:=Xt func183
 t3:=underlying3
 a3:=isAgg3
 z3:=sizeOf3
 v3:=zeroValue3
 t9:=underlying9
 a9:=isAgg9
 z9:=sizeOf9
 v9:=zeroValue9}
def Tryz.sortf61_ren:Go.Shelf.Ren:=⟨fun|6=>61|15=>112|14=>111|28=>181|29=>182|20=>173|21=>174|22=>175|23=>176|24=>177|25=>178|26=>179|27=>180|46=>228|47=>229|48=>230|49=>231|50=>232|57=>261|n=>n,fun|22=>77|24=>3|25=>86|3=>3|39=>131|0=>0|53=>180|55=>182|4=>4|46=>173|45=>172|50=>177|5=>5|9=>9|66=>227|70=>231|76=>246|77=>66|n=>n,fun|n=>n⟩
theorem Tryz.sortf61:Go.Proofs.SlLaysF.n6 prog Tryz.sortf61_ren:={
 mixed:=by kernel_rfl
 f6:=⟨Tryz.f61.name,by decide,Xt func61⟩
 f14:=⟨Tryz.f111.name,by decide,Xt func111⟩
 f15:=Xt func112
 f20:=⟨Tryz.f173.name,by decide,Xt func173⟩
 f21:=⟨Tryz.f174.name,by decide,Xt func174⟩
 f22:=⟨Tryz.f175.name,by decide,Xt func175⟩
 f23:=⟨Tryz.f176.name,by decide,Xt func176⟩
 f24:=⟨Tryz.f177.name,by decide,Xt func177⟩
 f25:=⟨Tryz.f178.name,by decide,Xt func178⟩
 f26:=⟨Tryz.f179.name,by decide,Xt func179⟩
 f27:=⟨Tryz.f180.name,by decide,Xt func180⟩
 f28:=Xt func181
 f29:=Xt func182
 f46:=⟨Tryz.f228.name,by decide,Xt func228⟩
 f47:=Xt func229
 f48:=Xt func230
 f49:=⟨Tryz.f231.name,by decide,Xt func231⟩
 f50:=⟨Tryz.f232.name,by decide,Xt func232⟩
 f57:=⟨Tryz.f261.name,by decide,Xt func261⟩
 t0:=underlying0
 a0:=isAgg0
 z0:=sizeOf0
 v0:=zeroValue0
 t3:=underlying3
 a3:=isAgg3
 z3:=sizeOf3
 v3:=zeroValue3
 t4:=underlying4
 a4:=isAgg4
 z4:=sizeOf4
 v4:=zeroValue4
 t5:=underlying5
 a5:=isAgg5
 z5:=sizeOf5
 v5:=zeroValue5
 t9:=underlying9
 a9:=isAgg9
 z9:=sizeOf9
 v9:=zeroValue9
 t22:=underlying77
 a22:=isAgg77
 z22:=sizeOf77
 v22:=zeroValue77
 a24:=isAgg3
 z24:=sizeOf3
 t25:=underlying86
 a25:=isAgg86
 z25:=sizeOf86
 v25:=zeroValue86
 t39:=underlying131
 a39:=isAgg131
 z39:=sizeOf131
 v39:=zeroValue131
 t45:=underlying172
 a45:=isAgg172
 z45:=sizeOf172
 v45:=zeroValue172
 t46:=underlying173
 a46:=isAgg173
 z46:=sizeOf173
 v46:=zeroValue173
 t50:=underlying177
 a50:=isAgg177
 z50:=sizeOf177
 v50:=zeroValue177
 t53:=underlying180
 a53:=isAgg180
 z53:=sizeOf180
 v53:=zeroValue180
 t55:=underlying182
 a55:=isAgg182
 z55:=sizeOf182
 v55:=zeroValue182
 t66:=underlying227
 a66:=isAgg227
 z66:=sizeOf227
 v66:=zeroValue227
 t70:=underlying231
 a70:=isAgg231
 z70:=sizeOf231
 v70:=zeroValue231
 t76:=underlying246
 a76:=isAgg246
 z76:=sizeOf246
 v76:=zeroValue246
 t77:=underlying66
 a77:=isAgg66
 z77:=sizeOf66
 v77:=zeroValue66}
end Go.Proofs
end
section
namespace Go.Proofs
open Go.RowKit Go.Shelf Go.AL
variable [Tabs]
attribute [local go_sem] Oper.semAt_some
set_option maxRecDepth 100000 in
set_option maxHeartbeats 2000000 in
theorem Tryz.values1(F:Fence)(n:Nat)(h7:F.fn 226)(hro:F.round=none)(hn:1<=n)(l Bs Bo b off len cap:Nat)(zs:List Str)(hreach:len<=maxLen)(J:List Str->World->Prop)(hBl:∀pre W,J pre W->W.cell? ⟨Bs,Bo,none⟩=some (.slice (some ⟨b,off,none⟩) len cap)/\∀j,j<len->W.cell? ⟨b,off+j,none⟩=some (encStr (zs[j]?.getD [])))
 (hY:∀pre x W,J pre W->pre.length<len->YieldAt F (n-1) Tryz.prog l #[encStr x] W fun e W'=>e=.returned (.bool true)/\J (pre++[x]) W')
 (W:World)(h0:J [] W) :
  CallsIn F n Tryz.prog 226 #[.func (.yield l) #[] #[],.pointer (some ⟨Bs,Bo,none⟩)] W fun e W'=>(∃v,e=.returned v)/\∃ys,ys=upto (fun j=>zs[j]?.getD []) len/\J ys W':=by
 obtain⟨hBs,hc⟩:=hBl _ _ h0;refine callsIn_of_wp Tryz.func226 rfl h7 ?_ hro;simp only[Tryz.ntmps226,List.size_toArray,List.length_cons,List.length_nil,Nat.reduceAdd,Nat.reduceSub,Array.replicate_succ,Array.replicate_zero,List.push_toArray,List.append_toArray,List.nil_append,List.cons_append]
 gi_wp2
 gi_loopw [7] (fun i wr=>∃k:Nat,k<=len/\i=.int .i64 k/\J (upto (fun j=>zs[j]?.getD []) k) wr)
  (fun i _=>len-(intOf i).toNat)
 case atStart=>exact⟨0,Nat.zero_le _,rfl,h0⟩
 case round=>
  obtain⟨k,hk,rfl,hJs⟩:=hrel;have hcx:k<len->wr.cell? ⟨b,off+k,none⟩=some (encStr (zs[k]?.getD [])):=fun h=>(hBl _ _ hJs).2 k h;by_cases hlt:k<len
  ·obtain⟨fn,tmps,assign,body,hy,hR⟩:=hY _ (zs[k]?.getD []) wr hJs (by rw[vH];exact hlt);have hcx':=hcx hlt;have hsmall:(k:Int)+1<=9223372036854775807:=by unfold maxLen at hreach;omega
   gi_wp2
   refine hR.mono ?_;rintro e W3 ⟨rfl,hJ3⟩
   gi_wp2
   go_roundw
   case rel=>exact⟨k+1,by omega,by simp,by rw[BF];exact hJ3⟩
   case measure=>simp[intOf];omega
  ·obtain rfl:k=len:=by omega
   gi_wp2
   go_end0
   exact⟨⟨_,rfl⟩,_,rfl,hJs⟩
set_option maxRecDepth 100000 in
set_option maxHeartbeats 1000000 in
theorem Tryz.values1_nil(F:Fence)(n:Nat)(h7:F.fn 226)(hro:F.round=none)(l Bs Bo cap:Nat)(a:Option Addr)(J:List Str->World->Prop)(W:World)(hBs:W.cell? ⟨Bs,Bo,none⟩=some (.slice a 0 cap))(h0:J [] W) :
  CallsIn F n Tryz.prog 226 #[.func (.yield l) #[] #[],.pointer (some ⟨Bs,Bo,none⟩)] W fun e W'=>(∃v,e=.returned v)/\J [] W':=by
 refine callsIn_of_wp Tryz.func226 rfl h7 ?_ hro;simp only[Tryz.ntmps226,List.size_toArray,List.length_cons,List.length_nil,Nat.reduceAdd,Nat.reduceSub,Array.replicate_succ,Array.replicate_zero,List.push_toArray,List.append_toArray,List.nil_append,List.cons_append]
 gi_wp2
 gi_loopw [7] (fun i wr=>i=.int .i64 0/\J [] wr) (fun _ _=>0)
 case atStart=>exact⟨rfl,h0⟩
 case round=>
  obtain⟨rfl,hJs⟩:=hrel
  gi_wp2
  go_end0
  exact⟨⟨_,rfl⟩,hJs⟩
theorem Tryz.valuesL:ub Tryz.prog 226:=by
 intro w b o sv zs hz hc hs l J W a1 a2 a3 a4 a5;have hb:=bh hc;rcases hs with⟨⟨a,cap,rfl⟩,rfl⟩|⟨g,off,cap,rfl,hg,hcs⟩
 ·refine(Tryz.values1_nil Fence.wide 2 trivial rfl l b o cap a J W ((a1.cell (p:=⟨b,o,none⟩) hb).trans hc) a5).mono ?_;rintro e W' ⟨h1,h2⟩;exact⟨h1,[],rfl,h2⟩
 ·refine(Tryz.values1 Fence.wide 2 trivial rfl (by omega) l b o g off zs.length cap zs hz J (fun pre W1 hJ=>⟨((a3 _ _ hJ).cell (p:=⟨b,o,none⟩) hb).trans hc,fun j hj=>((a3 _ _ hJ).cell (p:=⟨g,off+j,none⟩) hg).trans (hcs j hj)⟩)
   (fun pre x W1 h1 h2=>(a4 pre x W1 h1 h2).mono fun e W' h=>⟨h.1,h.2.1⟩) W a5).mono ?_
  rintro e W' ⟨h1,ys,h2,h3⟩;exact⟨h1,ys,by rw[h2,DR],h3⟩
end Go.Proofs
end
section
namespace Go.AL.Seat
open Go Go.AL Go.Proofs Go.Shelf Go.Pd
variable [Tabs]
theorem HB:SortL Tryz.prog Tryz.sorted200_ren:=
 ⟨Tryz.sorted200,⟨fun blk off cap ss W hH hblk hsz=>callsIn_wide.2 (Any.slices_Sort_string Tryz.lays190 blk off cap ss W hH hblk hsz),fun p cap W=>callsIn_wide.2 (Any.slices_Sort_string_none Tryz.lays190 p cap W)⟩,enters_of Tryz.func225 (by kernel_rfl) rfl⟩
theorem lH:ak Tryz.prog 167 (eJ 226):=
 rR HB rfl (enters_of Tryz.func226 (by kernel_rfl) rfl) Tryz.valuesL (aJ.mk' Tryz.func167 (by kernel_rfl))
theorem kr:ak Tryz.prog 169 eK:=rS Tryz.lays194 rfl (aJ.mk' Tryz.func169 (by kernel_rfl))
theorem E2:ak Tryz.prog 197 (p1 .str fun t=>⟨some (nU t),none,.tup [.int .i64 (lk t),.nilif],[]⟩):=yB Tryz.lays172 rfl (aJ.mk' Tryz.func197 (by kernel_rfl))
end Go.AL.Seat
end
section
namespace Go.AL.Seat
open Go Go.AL Go.Proofs Go.Shelf Go.Pd
class SeatLaid[Tabs]:Prop where
 max:∃m:Int,Tabs.tab 0 0 (.int .i64 m)
 utf:ml 1 2
variable [Tabs] [SeatLaid]
theorem E3:ak Tryz.prog 129 (p2 .str .str fun a b=>⟨some (b=qh),none,.str (qi a),[]⟩):=yE Tryz.lays160 (by kernel_rfl) rfl (aJ.mk' Tryz.func129 (by kernel_rfl))
theorem FZ:ak Tryz.prog 194 (p2 .str .str fun a b=>⟨some (b=[45]/\a.length<4294967281),none,.tup [.str (iC a),.str (lG a),.bool (mZ a)],[]⟩):=
 let ⟨_,hm⟩:=SeatLaid.max;BM Tryz.lays145 hm rfl (aJ.mk' Tryz.func194 (by kernel_rfl))
theorem BN:ak Tryz.prog 195 (p2 .str .str fun a b=>⟨some (b=[46]/\a.length<4294967281),none,.lst .str (splitB 46 a) none,[]⟩):=
 let ⟨_,hm⟩:=SeatLaid.max;vQ Tryz.lays146 (by kernel_rfl) hm rfl (aJ.mk' Tryz.func195 (by kernel_rfl))
theorem ug:ak Tryz.prog 201 (p2 .str .str fun a b=>⟨some (b.length=1),none,.bool (decide (b.getD 0 0∈a)),[]⟩):=qn Tryz.lays144 rfl (aJ.mk' Tryz.func201 (by kernel_rfl))
theorem rX:ak Tryz.prog 199 (p2 .str (.int .u8) fun a c=>.ret (.int .i64 (DV a c))):=oK Tryz.lays137 rfl (aJ.mk' Tryz.func199 (by kernel_rfl))
theorem qt:ak Tryz.prog 186 (p1 .str fun s=>.ret (.tup [.int .i32 ((ju s).1:Int),.int .i64 ((ju s).2:Int)])):=n5 Tryz.lays197 SeatLaid.utf rfl (aJ.mk' Tryz.func186 (by kernel_rfl))
theorem BO:ak Tryz.prog 165 (p1 .str fun s=>.ret (.bool (km s).isNone)):=vS Tryz.lays196 SeatLaid.utf rfl (aJ.mk' Tryz.func165 (by kernel_rfl))
end Go.AL.Seat
end
section
namespace Go.Proofs.YtpiedfeneggkmaaGreatDoor.Join
open Go.AL Go.AL.Seat Go.ChangeShapes Go.WideShapes Go.RowKit Go.Lib Go.Shelf
set_option maxRecDepth 1000000
theorem own:ownKnob Tryz.prog.godebug=none:=by kernel_rfl
theorem G0:laidOutB Tryz.prog=true:=by kernel_rfl
theorem undB:Tryz.prog.underlying 4=some .bool:=by kernel_rfl
theorem undI:Tryz.prog.underlying 3=some (.int .i64):=by kernel_rfl
theorem AJ:ShapeAt Tryz.prog 34:=⟨_,_,_,_,_,9,Tryz.underlying34,by kernel_rfl,⟨rfl,rfl,rfl,rfl,rfl⟩,⟨by kernel_rfl,by kernel_rfl,by kernel_rfl,by kernel_rfl,by kernel_rfl⟩,by kernel_rfl,by kernel_rfl,by kernel_rfl,by kernel_rfl,by kernel_rfl,by kernel_rfl,by kernel_rfl⟩
theorem H4:BindAt Tryz.prog 48:=⟨_,_,_,Tryz.underlying48,by kernel_rfl,⟨rfl,rfl,rfl⟩,⟨by kernel_rfl,by kernel_rfl,by kernel_rfl⟩,by kernel_rfl,by kernel_rfl,AJ⟩
theorem HC:EnvAt Tryz.prog 29:=⟨_,_,_,_,48,Tryz.underlying29,by kernel_rfl,⟨rfl,rfl,rfl,rfl⟩,⟨by kernel_rfl,by kernel_rfl,by kernel_rfl,by kernel_rfl⟩,by kernel_rfl,⟨by kernel_rfl,by kernel_rfl,by kernel_rfl⟩,H4⟩
theorem HD:Tryz.prog.readableRec 29=true:=by kernel_rfl
theorem dx:40<Tryz.prog.types.size:=Xo (by kernel_rfl)
def laid:List (String×DataW Unit):=Rows.synthTypesRow.laid
theorem HE:(Rows.laid_unicode_utf8_acceptRanges:DataW Unit)=acceptData:=by kernel_rfl
theorem HF{W:World}(h:W.ShapedOpen Tryz.prog):∃m,W.cell? ⟨0,0,none⟩=some (.int .i64 m):=
 cell_of_shapedOpen_int (t:=3) (zero:=#[.int .i64 0]) h (Xo (by kernel_rfl)) (by kernel_rfl) rfl (by kernel_rfl) (by kernel_rfl) undI
theorem kq{W:World}(h:laidMet Tryz.prog laid W):Utf8Tabs 1 2 W:=
 utf8Tabs_of_readsT (ρ:=Tryz.lays196_ren) (U8Types.of196 Tryz.lays196) ⟨by kernel_rfl,by kernel_rfl,by kernel_rfl,by kernel_rfl,by kernel_rfl,by kernel_rfl,by kernel_rfl⟩
  (Pinned.utf8First_eq ▸ laidMet.reads h (by simp[laid,Rows.synthTypesRow,Rows.laid_unicode_utf8_first])) (HE ▸ laidMet.reads h (by simp[laid,Rows.synthTypesRow]))
theorem E4{W:World}(h:laidMet Tryz.prog laid W)(hs:W.ShapedOpen Tryz.prog):@SeatLaid (qd W):=by
 letI:Tabs:=qd W
 obtain⟨m,hm⟩:=HF hs;obtain⟨u1,u2⟩:=kq h;exact⟨⟨m,by decide,hm⟩,fun c hc=>⟨by decide,u1 c hc⟩,fun i hi=>⟨⟨by decide,(u2 i hi).1⟩,by decide,(u2 i hi).2⟩⟩
def z32:List Int:=[0,1,28,2,29,14,24,3,30,22,20,15,25,17,4,8,31,27,13,23,21,19,16,7,26,12,18,6,11,5,10,9]
def z64:List Int:=[0,1,56,2,57,49,28,3,61,58,42,50,38,29,17,4,62,47,59,36,45,43,51,22,53,39,33,30,24,18,12,5,63,55,48,27,60,41,37,16,46,35,44,21,52,32,23,11,54,26,40,15,34,20,31,10,25,14,19,9,13,8,7,6]
def zPow:List Int:=[1,10,100,1000,10000,100000,1000000,10000000,100000000,1000000000,10000000000,100000000000,1000000000000,10000000000000,100000000000000,1000000000000000,10000000000000000,100000000000000000,1000000000000000000,10000000000000000000]
def zAcc:List Int:=[128,191,160,191,128,159,144,191,128,143,0,0,0,0,0,0,0,0,0,0,0,0,0,0,0,0,0,0,0,0,0,0]
def H5:List Int:=List.map Int.ofNat Pinned.utf8FirstZ
noncomputable def kO(os:Os):World:=
 let N:=(World.settled Tryz.prog os).heap.size
 let w0:=World.holding Tryz.prog os ⟨#[.cells #[.string ⟨#[118,97,108,117,101,32,111,117,116,32,111,102,32,114,97,110,103,101]⟩] 290,.cells #[.string ⟨#[105,110,118,97,108,105,100,32,115,121,110,116,97,120]⟩] 290],#[],[]⟩
 let put (h:Array Obj) (g:Nat) (cs:Array Value):Array Obj:=h.modify g fun
  |.cells _ t frozen=>.cells cs t frozen
  |o=>o
 let h0:=put (put w0.heap 3 #[.iface 288 (.pointer (some ⟨N+1,0,none⟩))]) 4 #[.iface 288 (.pointer (some ⟨N,0,none⟩))]
 let h1:=put (put (put h0 5 (zPow.map (Value.int .u64)).toArray) 6 (z32.map (Value.int .u8)).toArray) 7 (z64.map (Value.int .u8)).toArray
 let h2:=put (put h1 1 (H5.map (Value.int .u8)).toArray) 2 (zAcc.map (Value.int .u8)).toArray
 {w0 with heap:=h2}
noncomputable abbrev N0:Nat:=(World.settled Tryz.prog default).heap.size
theorem H6(os:Os)(args:Array Value):LaidIn Tryz.prog ((kO os).forCall (fun _ _=>0) ⟨#[],args,[]⟩).memory laid [6,7,5,2,4,N0,3,N0+1,1]:=
 LaidIn.of_run [6,7,5,2,4,N0,3,N0+1,1] 10 (by kernel_rfl) (by kernel_rfl) (by kernel_rfl) (by kernel_rfl)
theorem E5(os:Os)(args:Array Value):laidMet Tryz.prog laid ((kO os).forCall (fun _ _=>0) ⟨#[],args,[]⟩).memory:=(H6 os args).met
end Go.Proofs.YtpiedfeneggkmaaGreatDoor.Join
end
section
namespace Go.Pd
open Go.AL
def cG(b:UInt8):Bool:=!(decide (bI b<32)&&!decide (bI b=10)&&!decide (bI b=9))
def fY(s:Str):Bool:=s.all cG&&(km s).isNone
def bD(s:Shape):Bool:=decide (aC s=0)&&allS b9 s
def eY(t:Trm)(n v s p:Nat):Bool:=decide (t.names.length=n)&&decide (t.vars.length=v)&&decide (t.shapes.length=s)&&decide (t.parts.length=p)
def eZ(t:Trm):Bool:=decide (0<=t.pos)&&(decide (t.n=0)||decide (t.kind=1))&&(decide (t.pkg=[])||decide (t.kind=5))&&t.shapes.all bD
def ku(l:List Str):Bool:=l.all aI&&decide l.Nodup
def jF(t:Trm):Bool:=
 if t.kind=1 then decide (t.name=[])&&decide (0<=t.n)&&decide (t.n<=999999999999999)&&eY t 0 0 0 0
 else if t.kind=2 then fY t.name&&eY t 0 0 0 0
 else if t.kind=3∨t.kind=4 then decide (t.name=[])&&eY t 0 0 0 0
 else if t.kind=5 then aI t.name&&(decide (t.pkg=[])||aI t.pkg)&&eY t 0 0 0 0
 else if t.kind=6 then decide (t.name=[])&&decide (t.names.length<=4096)&&ku t.names&&eY t t.names.length 0 t.names.length 1
 else if t.kind=7 then decide (t.name=[])&&decide (0<t.parts.length)&&eY t 0 0 0 t.parts.length
 else if t.kind=8 then decide (t.name=[])&&ku t.names&&eY t t.names.length 0 0 t.names.length
 else if t.kind=9∨t.kind=10 then aI t.name&&eY t 0 0 0 1
 else if t.kind=11 then decide (t.name=[])&&eY t 0 0 1 t.parts.length
 else if t.kind=12 then decide (t.name=[])&&eY t 0 0 1 3
 else if t.kind=13 then decide (t.name=[])&&ku t.names&&t.vars.all aI&&eY t t.names.length t.names.length (t.names.length+1) (t.names.length+1)
 else if t.kind=14 then aI t.name&&eY t 0 0 0 2
 else if t.kind=15 then decide (t.name=[])&&eY t 0 0 1 1
 else if t.kind=16∨t.kind=17 then aY t.name&&eY t 0 0 0 1
 else false
def ag(t:Trm):Bool:=eZ t&&jF t
mutual
def allT(f:Trm->Bool):Trm->Bool
 |⟨k,g,q,z,ns,vs,ss,ps,pp⟩=>f ⟨k,g,q,z,ns,vs,ss,ps,pp⟩&&allTL f ps
def allTL(f:Trm->Bool):List Trm->Bool
 |[]=>true
 |p::r=>allT f p&&allTL f r
end
theorem allT_eq(f:Trm->Bool)(t:Trm):allT f t=(f t&&allTL f t.parts):=by cases t;rw[allT]
theorem allTL_all(f:Trm->Bool):∀l:List Trm,allTL f l=l.all (allT f)
 |[]=>rfl
 |p::r=>by rw[List.all_cons,<-allTL_all f r];rw[allTL]
def cK(t:Trm):Bool:=allT (fun x=>decide (x.names.length<=8796093022208)) t
theorem BP{t x:Trm}(h:cK t=true)(hx:x∈t.parts):cK x=true:=by unfold cK at h⊢;rw[allT_eq,Bool.and_eq_true,allTL_all]at h;exact List.all_eq_true.1 h.2 x hx
theorem yG{t:Trm}(h:cK t=true):t.names.length<=8796093022208:=by unfold cK at h;rw[allT_eq,Bool.and_eq_true]at h;exact Xo h.1
def cC(t:Trm):Int:=
 if 4096<(countT t 4096).1 then 3 else if 40<(countT t 4096).2 then 91 else if allT ag t=true then 0 else 80
end Go.Pd
namespace Go.Pd
open Go.AL
theorem dnZ(n:Nat):decide ((n:Int)=0)=decide (n=0):=decide_eq_decide.2 (by omega)
theorem dn1(n:Nat):decide ((n:Int)=1)=decide (n=1):=decide_eq_decide.2 (by omega)
theorem dn2(n:Nat):decide ((n:Int)=2)=decide (n=2):=decide_eq_decide.2 (by omega)
theorem dn3(n:Nat):decide ((n:Int)=3)=decide (n=3):=decide_eq_decide.2 (by omega)
theorem dnN(n m:Nat):decide ((n:Int)=(m:Int))=decide (n=m):=decide_eq_decide.2 (by omega)
theorem dnS(n m:Nat):decide ((n:Int)=(m:Int)+1)=decide (n=m+1):=decide_eq_decide.2 (by omega)
theorem dnL(n:Nat):decide ((n:Int)<=4096)=decide (n<=4096):=decide_eq_decide.2 (by omega)
theorem dnP(n:Nat):decide ((0:Int)<(n:Int))=decide (0<n):=decide_eq_decide.2 (by omega)
theorem vT(s:Str)(k:Nat)(h:k<s.length):(bE s).getD k (dfl (Ty.int IntKind.u8))=bI (s.getD k 0):=by unfold bE;simp[List.getD_eq_getElem?_getD,h,bI]
theorem sF(b:UInt8):cG b=false↔(bI b<32/\bI b≠10/\bI b≠9):=by unfold cG;simp only[Bool.not_eq_false',Bool.and_eq_true,decide_eq_true_eq,Bool.not_eq_true',decide_eq_false_iff_not];omega
end Go.Pd
end
noncomputable section
namespace Go.AL
open Go.ChangeShapes Go.WideShapes Go.RowKit
variable [Tabs]
structure GoodR{H:Type}(P:Program)(N M:Nat)(g:TypeId->DataW H->Prop):Prop where
 str:∀t s,P.underlying t=some .string->g t (.lit (.string s))->s.length<=M
 len:∀t e es sp,P.underlying t=some (.slice e)->g t (.slice es sp)->P.bytesOf e=16->es.length<=N
 el:∀t e es sp,P.underlying t=some (.slice e)->g t (.slice es sp)->∀x∈es,g e x
 part:∀t fs ps,P.underlying t=some (.struct fs)->g t (.agg ps)->∀(i:Nat)(f:Field) p,fs[i]?=some f->ps[i]?=some p->g f.type p
variable {H:Type} {enc:TypeId×Value->H} {P:Program} {w:World} {base:Nat} {held:Bool}
theorem H7{N M:Nat}{g:TypeId->DataW H->Prop}(hb:GoodR P N M g){t e:TypeId}{τ:Ty}{Q:den τ->Prop}{fuel:Nat}{cs:List Value}{x:DataW H×List MemPlace}(ht:P.underlying t=some (.slice e))(hc:P.cellsOf e=ai τ)(h:DataW.trod enc P w base (fun _=>true) held fuel t cs=some x)(hg:g t x.1)
 (hel:∀(n:Nat)(ds:List Value)(y:DataW H×List MemPlace),fuel=n+1->DataW.trod enc P w base (fun _=>true) held n e ds=some y->g e y.1->∃z:den τ,VL (Om0 w) (cells τ z) ds/\Q z)
 (hsp:∀a len cap,cs=[.slice (some a) len cap]->a.spot=none):∃(l:List (den τ))(v:Value),cs=[v]/\V (Om0 w) (.lst τ l none) v/\(P.bytesOf e=16->l.length<=N)/\∀z∈l,Q z:=by
 rcases DataW.trod_slice ht h with⟨rfl,_⟩|⟨a,len,cap,elems,rest,n,hfu,rfl,hx,_,hlc,hcm,hlen,hels,_,_⟩
 ·exact⟨[],_,rfl,.lstNil τ none (fun id hid=>by cases hid),fun _=>Nat.zero_le _,fun z hz=>by cases hz⟩
 ·have hs:=hsp a len cap rfl;obtain⟨bl,off,spot⟩:=a;simp only at hs;subst hs
  have each:∀i,i<len->∃z:den τ,∃ds:List Value,ds.length=ai τ/\(∀j,j<ai τ->w.cell? ⟨bl,off+(i *ai τ+j),none⟩=ds[j]?)/\VL (Om0 w) (cells τ z) ds/\Q z:=by
   intro i hi;have h1:=hels i hi;obtain⟨y,hy⟩:∃y,elems[i]?=some y:=⟨_,List.getElem?_eq_getElem (by omega)⟩;rw[hy,hc,Option.bind_eq_some_iff]at h1;obtain⟨ds,hd,hy'⟩:=h1;obtain⟨_,hdl,hdc⟩:=World.cells?_some hd
   obtain⟨z,hz,hq⟩:=hel n ds y hfu hy' (by
    rw[hx]at hg;exact hb.el _ _ _ _ ht hg _ (List.mem_map_of_mem (List.mem_of_getElem? hy)))
   refine⟨z,ds,hdl,fun j hj=>?_,hz,hq⟩;have:=hdc j hj
   have ha:∀(o n:Nat),(⟨bl,o,none⟩:Addr).add n=⟨bl,o+n,none⟩:=by
    intro o n;unfold Addr.add;by_cases h0:n=0
    ·subst h0;rfl
    ·rw[if_neg h0]
   rw[ha,ha,Nat.add_assoc]at this;exact this
  have hz:∃l:List (den τ),l.length=len/\∀i z,l[i]?=some z->∃ds:List Value,ds.length=ai τ/\(∀j,j<ai τ->w.cell? ⟨bl,off+(i *ai τ+j),none⟩=ds[j]?)/\VL (Om0 w) (cells τ z) ds/\Q z:=by
   refine⟨(List.range len).attach.map fun i=>(each i.1 (List.mem_range.1 i.2)).choose,by simp,fun i z hi=>?_⟩;have hil:i<len:=by have:=(List.getElem?_eq_some_iff.1 hi).1;simpa using this
   simp only[List.getElem?_map,Option.map_eq_some_iff]at hi;obtain⟨⟨k,hk⟩,h1,h2⟩:=hi;have hki:k=i:=by have:=List.getElem?_eq_some_iff.1 h1;obtain⟨_,e⟩:=this;have:=congrArg Subtype.val e;simpa using this.symm
   subst hki;rw[<-h2];exact(each k (List.mem_range.1 hk)).choose_spec
  obtain⟨l,hll,hle⟩:=hz;have hQ:∀z∈l,Q z:=fun z hz=>by obtain⟨i,hi⟩:=List.getElem?_of_mem hz;obtain⟨_,_,_,_,hq⟩:=hle i z hi;exact hq
  have hL:P.bytesOf e=16->l.length<=N:=fun h16=>by
   rw[hx]at hg;rw[hll,<-hlen];have:=hb.len _ _ _ _ ht hg h16
   rwa [List.length_map]at this
  refine⟨l,_,rfl,?_,hL,hQ⟩;have key:=V.lst (Ω:=Om0 w) τ l none bl off cap (fun i j=>(w.cell? ⟨bl,off+(i *ai τ+j),none⟩).getD undef) (by omega) (by unfold maxLen at hcm;unfold bS;omega) (fun id hid=>by cases hid) (fun i z hz j c hj=>?_) (fun i z hz j c hj=>?_)
  ·rw[hll]at key;exact key
  ·obtain⟨ds,d1,d2,d3,_⟩:=hle i z hz;have hjw:j<ai τ:=by rw[<-bf τ z];exact(List.getElem?_eq_some_iff.1 hj).1
   have hv:w.cell? ⟨bl,off+(i *ai τ+j),none⟩=some ds[j]:=by rw[d2 j hjw];exact List.getElem?_eq_getElem (by omega)
   refine⟨⟨_,hv⟩,?_⟩;show w.cell? _=_;rw[hv];rfl
  ·obtain⟨ds,d1,d2,d3,_⟩:=hle i z hz;have hjw:j<ai τ:=by rw[<-bf τ z];exact(List.getElem?_eq_some_iff.1 hj).1
   have hd:ds[j]?=some ds[j]:=List.getElem?_eq_getElem (by omega);rw[d2 j hjw,hd];exact d3.2 j c ds[j] hj hd
theorem AK{N M:Nat}{g:TypeId->DataW H->Prop}(hb:GoodR P N M g){t e:TypeId}{τ:Ty}{Q:den τ->Prop}{fuel:Nat}{cs:List Value}{x:DataW H×List MemPlace}(ht:P.underlying t=some (.slice e))(hc:P.cellsOf e=ai τ)(hw:0<ai τ)
 (h:DataW.trod enc P w base (fun _=>true) held fuel t cs=some x)(hg:g t x.1)
 (hel:∀(n:Nat)(ds:List Value)(y:DataW H×List MemPlace),fuel=n+1->DataW.trod enc P w base (fun _=>true) held n e ds=some y->g e y.1->∃z:den τ,VL (Om0 w) (cells τ z) ds/\Q z) :
  ∃(l:List (den τ))(v:Value),cs=[v]/\V (Om0 w) (.lst τ l none) v/\(P.bytesOf e=16->l.length<=N)/\∀z∈l,Q z:=by
 have h0:=h;rcases DataW.trod_slice ht h with⟨rfl,_⟩|⟨a,len,cap,elems,rest,n,hfu,rfl,_,_,hlc,hcm,hlen,hels,hrest,_⟩
 ·exact⟨[],_,rfl,.lstNil τ none (fun id hid=>by cases hid),fun _=>Nat.zero_le _,fun z hz=>by cases hz⟩
 ·by_cases hcap:cap=0
  ·have:len=0:=by omega
   subst hcap this;exact⟨[],_,rfl,.lstVoid τ a,fun _=>Nat.zero_le _,fun z hz=>by cases hz⟩
  ·refine H7 hb ht hc h0 hg hel fun a' len' cap' e'=>?_;simp only[List.cons.injEq,Value.slice.injEq,Xs,and_true]at e';obtain⟨rfl,rfl,rfl⟩:=e'
   have hr:∃(ad:Addr)(y:DataW H×List MemPlace),ad=a/\(w.cells? base ad (P.cellsOf e)).bind (DataW.trod enc P w base (fun _=>true) held n e)=some y:=by
    by_cases hl:len=0
    ·obtain⟨r1,r2⟩:=hrest rfl;have:=r2 0 (by omega);rw[hl]at this;refine⟨_,_,?_,this.trans (List.getElem?_eq_getElem (by omega))⟩;simp[Addr.add]
    ·have:=hels 0 (by omega);refine⟨_,_,?_,this.trans (List.getElem?_eq_getElem (by omega))⟩;simp[Addr.add]
   obtain⟨ad,y,rfl,hy⟩:=hr;rw[Option.bind_eq_some_iff]at hy;obtain⟨ds,hd,_⟩:=hy;obtain⟨_,hdl,hdc⟩:=World.cells?_some hd;have:=hdc 0 (by rw[hc];exact hw);have ha:ad.add 0=ad:=by simp[Addr.add]
   rw[ha,List.getElem?_eq_getElem (by rw[hdl,hc];exact hw)]at this;unfold World.cell? at this;split at this
   ·split at this
    ·cases this
    ·rename_i hs;cases hsp:ad.spot
     ·rfl
     ·rw[hsp]at hs;exact absurd rfl hs
   ·cases this
theorem E6{N M:Nat}{g:TypeId->DataW H->Prop}(hb:GoodR P N M g){sp:Nat->Bool}{t:TypeId}{fs:Array Field}{fuel:Nat}{cs:List Value}{x:DataW H×List MemPlace}(ht:P.underlying t=some (.struct fs))(h:DataW.trod enc P w base sp held fuel t cs=some x)(hg:g t x.1) :
  ∃n,fuel=n+1/\cs.length=P.cellsOf t/\∀(i:Nat)(f:Field),fs[i]?=some f->∃y,DataW.trod enc P w base sp held n f.type ((cs.drop f.offset).take (P.cellsOf f.type))=some y/\g f.type y.1:=by
 obtain⟨xs,n,hn,hx,hl,hs,hf⟩:=DataW.trod_struct ht h;refine⟨n,hn,hl,fun i f hif=>?_⟩
 have hi:i<xs.length:=by
  rw[hs];rcases Nat.lt_or_ge i fs.size with k|k
  ·exact k
  ·rw[Array.getElem?_eq_none k]at hif;cases hif
 refine⟨xs[i],by rw[hf i f hif];exact List.getElem?_eq_getElem hi,?_⟩;rw[hx]at hg;exact hb.part _ _ _ ht hg i f _ hif (by rw[List.getElem?_map,List.getElem?_eq_getElem hi];rfl)
theorem H8{N M:Nat}{g:TypeId->DataW H->Prop}(hb:GoodR P N M g){sp:Nat->Bool}{t:TypeId}{fuel:Nat}{cs:List Value}{x:DataW H×List MemPlace}(ht:P.underlying t=some .string)(h:DataW.trod enc P w base sp held fuel t cs=some x)(hg:g t x.1) :
  ∃(s:Str)(v:Value),cs=[v]/\V (Om0 w) (.str s) v/\s.length<=M:=by
 obtain⟨s,rfl,hx,hw⟩:=DataW.trod_string ht h;refine⟨s.data.toList,_,rfl,?_,by rw[hx]at hg;exact hb.str _ _ ht hg⟩;have e:s=⟨s.data.toList.toArray⟩:=by cases s;simp
 have hl:s.data.toList.length<=bS:=by have:s.data.size=s.size:=rfl;unfold maxLen at hw;unfold bS;simp only[Array.length_toList,this];omega
 have:=V.str (Ω:=Om0 w) s.data.toList hl;rw[<-e]at this;exact this
structure TermAt(P:Program)(t:TypeId):Prop where
 ex:∃(f0 f1 f2 f3 f4 f5 f6 f7 f8:Field)(e g:TypeId),P.underlying t=some (.struct #[f0,f1,f2,f3,f4,f5,f6,f7,f8])/\P.cellsOf t=9/\
  (f0.offset=0/\f1.offset=1/\f2.offset=2/\f3.offset=3/\f4.offset=4/\f5.offset=5/\f6.offset=6/\f7.offset=7/\f8.offset=8)/\
  (P.cellsOf f0.type=1/\P.cellsOf f1.type=1/\P.cellsOf f2.type=1/\P.cellsOf f3.type=1/\P.cellsOf f4.type=1/\P.cellsOf f5.type=1/\P.cellsOf f6.type=1/\P.cellsOf f7.type=1/\P.cellsOf f8.type=1)/\
  (P.underlying f0.type=some (.int .i64)/\P.underlying f1.type=some .string/\P.underlying f2.type=some .string/\P.underlying f3.type=some (.int .i64)/\P.underlying f4.type=some (.slice e)/\P.underlying f5.type=some (.slice e)/\
   P.underlying f6.type=some (.slice g)/\P.underlying f7.type=some (.slice t)/\P.underlying f8.type=some (.int .i64))/\(P.underlying e=some .string/\P.cellsOf e=1/\P.bytesOf e=16)/\ShapeAt P g
def n9(N M:Nat)(x:Trm):Bool:=decide (x.names.length<=N)&&decide (x.name.length<=M)
theorem H9{N M:Nat}{g:TypeId->DataW H->Prop}(hb:GoodR P N M g){t:TypeId}(hs:TermAt P t):∀(fuel:Nat)(cs:List Value)(x:DataW H×List MemPlace),DataW.trod enc P w base (fun _=>true) held fuel t cs=some x->g t x.1->
  ∃s:Trm,VL (Om0 w) (cells (.st .term) s) cs/\Pd.allT (n9 N M) s=true:=by
 obtain⟨f0,f1,f2,f3,f4,f5,f6,f7,f8,e,e6,ht,hc,⟨o0,o1,o2,o3,o4,o5,o6,o7,o8⟩,⟨c0,c1,c2,c3,c4,c5,c6,c7,c8⟩,⟨u0,u1,u2,u3,u4,u5,u6,u7,u8⟩,⟨us,ce,b16⟩,hg⟩:=hs;have cg:P.cellsOf e6=ai (.st .shape):=by obtain⟨_,_,_,_,_,_,_,hc,_⟩:=hg;rw[hc];rfl
 intro fuel
 induction fuel using Nat.strongRecOn with
 |_ fuel ih=>
 intro cs x h hN;obtain⟨n,hn,hl,hf⟩:=E6 hb ht h hN;rw[hc]at hl;obtain⟨y0,h0,_⟩:=hf 0 f0 rfl;obtain⟨y1,h1,_⟩:=hf 1 f1 rfl;obtain⟨y2,h2,b2⟩:=hf 2 f2 rfl;obtain⟨y3,h3,_⟩:=hf 3 f3 rfl;obtain⟨y4,h4,b4⟩:=hf 4 f4 rfl;obtain⟨y5,h5,_⟩:=hf 5 f5 rfl;obtain⟨y6,h6,_⟩:=hf 6 f6 rfl;obtain⟨y7,h7,b7⟩:=hf 7 f7 rfl;obtain⟨y8,h8,_⟩:=hf 8 f8 rfl
 match cs,hl with
 |[a0,a1,a2,a3,a4,a5,a6,a7,a8],_=>
  rw[o0,c0]at h0;rw[o1,c1]at h1;rw[o2,c2]at h2;rw[o3,c3]at h3;rw[o4,c4]at h4;rw[o5,c5]at h5;rw[o6,c6]at h6;rw[o7,c7]at h7;rw[o8,c8]at h8;simp only[List.drop_zero,List.drop_succ_cons,List.take_succ_cons,List.take_zero]at h0 h1 h2 h3 h4 h5 h6 h7 h8;obtain⟨k,e0,v0⟩:=AG u0 h0;obtain⟨p,w1,e1,v1⟩:=nR u1 h1;obtain⟨m,w2,e2,v2,l2⟩:=H8 hb u2 h2 b2;obtain⟨z,e3,v3⟩:=AG u3 h3;have strs:∀(n:Nat)(ds:List Value)(y:DataW H×List MemPlace),DataW.trod enc P w base (fun _=>true) held n e ds=some y->∃z:den .str,VL (Om0 w) (cells .str z) ds:=fun n ds y hy=>by obtain⟨s,v,rfl,hv⟩:=nR us hy;exact⟨s,VL.cons hv .nil⟩
  obtain⟨ns,w4,e4,v4,l4,_⟩:=AK (τ:=.str) (Q:=fun _=>True) hb u4 ce (by decide) h4 b4 (fun n ds y _ hy _=>by obtain⟨z,hz⟩:=strs n ds y hy;exact⟨z,hz,trivial⟩);obtain⟨vs,w5,e5,v5⟩:=lD (τ:=.str) u5 ce (by decide) h5 (fun n ds y _ hy=>strs n ds y hy);obtain⟨ss,w6,e6,v6⟩:=lD (τ:=.st .shape) u6 cg (by decide) h6 (fun n ds y _ hy=>AH hg n ds y hy);obtain⟨ps,w7,e7,v7,_,q7⟩:=AK (τ:=.st .term) (Q:=fun s=>Pd.allT (n9 N M) s=true) hb u7 (by rw[hc];rfl) (by decide) h7 b7 (fun k ds y hk hy hle=>ih k (by omega) ds y hy hle);obtain⟨at_,e8,v8⟩:=AG u8 h8;simp only[List.cons.injEq,and_true]at e0 e1 e2 e3 e4 e5 e6 e7 e8;subst e0 e1 e2 e3 e4 e5 e6 e7 e8;refine⟨⟨k,p,m,z,ns,vs,ss,ps,at_⟩,VL.cons v0 (VL.cons v1 (VL.cons v2 (VL.cons v3 (VL.cons v4 (VL.cons v5 (VL.cons v6 (VL.cons v7 (VL.cons v8 .nil)))))))),?_⟩;rw[Pd.allT_eq,Bool.and_eq_true,Pd.allTL_all,List.all_eq_true];refine⟨?_,q7⟩;unfold n9;rw[Xd (show ns.length<=N from l4 b16),Xd (show m.length<=M from l2)];rfl
theorem BQ{N M:Nat}{g:TypeId->DataW H->Prop}(hb:GoodR P N M g){t:TypeId}(hs:TermAt P t){r:Reach}{b0:Nat}{v:Value}{d:DataW H}{ps:List MemPlace}(hv:Value.okWide P w r b0 t v)(h:DataW.Trod enc P w base (fun _=>true) held t v d ps)(hg:g t d):∃s:Trm,V (Om0 w) (.st .term s) v/\Pd.allT (n9 N M) s=true:=by
 obtain⟨fu,h⟩:=h;obtain⟨s,hs',hq⟩:=H9 hb hs _ _ _ h hg;refine⟨s,.st .term s v ?_,hq⟩;have hl:=hs'.1;have hc:(cells (.st .term) s).length=9:=rfl;rw[hc]at hl
 cases v with
 |agg vs=>have:=V.of_agg hs';simpa[Value.cells]using this
 |_=>simp[Value.cells]at hl
end Go.AL
end
