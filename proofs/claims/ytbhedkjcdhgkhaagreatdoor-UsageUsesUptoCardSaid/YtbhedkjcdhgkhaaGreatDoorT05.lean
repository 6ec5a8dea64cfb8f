/- Plain facts. The layer: Go code as conditions, and that they are sound. What the functions' conditions say, proved. No condition. -/
import Derived.Test.YtbhedkjcdhgkhaaGreatDoorT04
import Derived.Deep.RegionHeld3
import Derived.Handy
import Derived.Laws.OwnMore
import Derived.Lib.Bytealg
import Derived.LoopN
import Derived.Maps.RangeRun
import Derived.Recover
import Derived.Shelf.SlIter.Collect
import Derived.Shelf.SlSortCmp.NoneTotal
import Derived.Shelf.SlSortCmp.QuietGrown
import Derived.Shelf.SlSortCmp.WholeK
import Derived.Shelf.Slices.Clone
import Derived.Shelf.Small.Strs
import Derived.Sort.Walk0
import Derived.Test.YtbhedkjcdhgkhaaGreatDoorProg
import Derived.WalkKit
set_option linter.all false
set_option maxRecDepth 100000
section
namespace Go.Pd
open Go Go.AL Go.Lib
def bj(a b:Int):Int:=if a<b then -1 else if b<a then 1 else 0
def fw(a b:Str):Int:=if a<b then -1 else if b<a then 1 else 0
theorem Gl(a b:UInt8):a<b∨a=b∨b<a:=by
 rcases Nat.lt_trichotomy a.toNat b.toNat with h|h|h
 ·exact .inl (Ni.2 h)
 ·exact .inr (.inl (Ns.1 h))
 ·exact .inr (.inr (Ni.2 h))
theorem xO:fw [] []=0:=by have h:¬([]:Str)<[]:=List.not_lt_nil _;unfold fw;rw[Kb h,Kb h]
theorem tx(b:UInt8)(y:Str):fw [] (b::y)=-1:=by unfold fw;rw[Kf (Nj b y)]
theorem tz(b:UInt8)(y:Str):fw (b::y) []=1:=by unfold fw;rw[Kb (List.not_lt_nil _),Kf (Nj b y)]
theorem jo(a b:UInt8)(x y:Str):fw (a::x) (b::y)=if a<b then -1 else if b<a then 1 else fw x y:=by
 unfold fw;have ht:=Gl a b;rcases ht with h|h|h
 ·rw[Kf h,Kf (Lq.2 (.inl h))]
 ·subst h
  have e:∀x y:Str,a::x<a::y↔x<y:=fun x y=>by
   rw[Lq];constructor
   ·rintro(h|h)
    ·exact absurd h (LR a)
    ·exact h.2
   ·exact fun h=>.inr ⟨rfl,h⟩
  simp only[e,Kb (LR a)]
 ·have h2:¬a<b:=fun e=>LR a (UInt8.lt_trans e h)
  have h3:¬a::x<b::y:=fun e=>by
   rcases Lq.1 e with e|e
   ·exact h2 e
   ·rw[e.1]at h;exact LR b h
  rw[Kb h2,Kf h,Kb h3,Kf (Lq.2 (.inl h))]
theorem rW:∀a b:Str,compareBytes a b=fw a b
 |[],[]=>by rw[xO];rfl
 |[],b::y=>by rw[tx];rfl
 |b::y,[]=>by rw[tz];rfl
 |a::x,b::y=>by rw[jo,compareBytes,rW x y]
theorem oz(a:Int):bj a a=0:=by unfold bj;rw[Kb (Int.lt_irrefl a),Kb (Int.lt_irrefl a)]
theorem oA:∀s:Str,fw s s=0
 |[]=>xO
 |a::x=>by rw[jo,Kb (LR a),Kb (LR a),oA x]
def cb(s:Str):Str:=s.dropWhile fun b=>decide (b=48)
def xP(a b:Str):Int:=if bj (cb a).length (cb b).length=0 then fw (cb a) (cb b)else bj (cb a).length (cb b).length
def AA(n:Nat)(s:Str):Str:=List.replicate (n-s.length) 48++s
theorem kU(s:Str):∃k,s=List.replicate k 48++cb s:=by
 induction s with
 |nil=>exact⟨0,rfl⟩
 |cons a x ih=>
  unfold cb;by_cases h:a=48
  ·obtain⟨k,e⟩:=ih;rw[M9,Kf (Xd h)];exact⟨k+1,by rw[M7,KU,h];exact Lu _ e⟩
  ·rw[M9,Kb (fun e=>h (Xo e))];exact⟨0,rfl⟩
theorem rX{s:Str}(hs:aM s=true){b:UInt8}{r:Str}(h:cb s=b::r):(48:UInt8)<b:=by
 have hm:b∈s:=by obtain⟨k,e⟩:=kU s;rw[e,h];simp
 have hn:¬b=48:=by intro e;have hh:=List.head?_dropWhile_not (fun b:UInt8=>decide (b=48)) s;unfold cb at h;rw[h,e]at hh;simp at hh
 unfold aM at hs;rw[Ka,Kp]at hs;have hd:=hs.2 b hm;unfold bS bI at hd;simp only[Ka,Kc]at hd;have h1:(48:Nat)<=b.toNat:=by omega
 have h2:b.toNat≠48:=fun e=>hn (Ns.1 e);exact Ni.2 (by show(48:Nat)<b.toNat;omega)
theorem um{x y:Str}(hx:∀b r,x=b::r->(48:UInt8)<b)(hy:∀b r,y=b::r->(48:UInt8)<b):∀k l:Nat,k+x.length=l+y.length->
  fw (List.replicate k 48++x) (List.replicate l 48++y)=if bj x.length y.length=0 then fw x y else bj x.length y.length
 |k+1,l+1,h=>by rw[M7,M7,KU,KU,jo,Kb (LR _),Kb (LR _),um hx hy k l (by omega)]
 |0,0,h=>by
  have e:x.length=y.length:=by omega
  rw[e,oz,Kf rfl];try rfl
 |0,l+1,h=>by
  cases x with
  |nil=>simp at h;try omega
  |cons b r=>
   have hb:=hx b r rfl
   have hc:bj (b::r).length y.length=1:=by
    unfold bj;have h1:¬((b::r).length:Int)<y.length:=by omega
    have h2:(y.length:Int)<((b::r).length:Int):=by omega
    rw[Kb h1,Kf h2]
   rw[hc,Kb (by decide),M7,List.replicate_zero,Le,KU,jo,Kb (fun e=>LR _ (UInt8.lt_trans e hb)),Kf hb]
 |k+1,0,h=>by
  cases y with
  |nil=>simp at h;try omega
  |cons b r=>
   have hb:=hy b r rfl
   have hc:bj x.length (b::r).length=-1:=by
    unfold bj;have h2:(x.length:Int)<((b::r).length:Int):=by omega
    rw[Kf h2]
   rw[hc,Kb (by decide),M7,List.replicate_zero,Le,KU,jo,Kf hb]
theorem CC(k l:Nat)(x:Str):List.replicate k (48:UInt8)++(List.replicate l 48++x)=List.replicate (k+l) 48++x:=by rw[<-KQ,List.replicate_append_replicate]
theorem Ij{a b:Str}(ha:aM a=true)(hb:aM b=true):fw (AA b.length a) (AA a.length b)=xP a b:=by
 obtain⟨k,ek⟩:=kU a;obtain⟨l,el⟩:=kU b
 have lk:a.length=k+(cb a).length:=by
  have:=Lu List.length ek
  rwa [Kw,MG]at this
 have ll:b.length=l+(cb b).length:=by
  have:=Lu List.length el
  rwa [Kw,MG]at this
 have h1:AA b.length a=List.replicate (b.length-a.length+k) 48++cb a:=by unfold AA;rw[<-CC,<-ek]
 have h2:AA a.length b=List.replicate (a.length-b.length+l) 48++cb b:=by unfold AA;rw[<-CC,<-el]
 rw[h1,h2,um (fun _ _ e=>rX ha e) (fun _ _ e=>rX hb e) _ _ (by omega)]
 try rfl
def gJ(a b:Str):Int:=if aM a=true then(if aM b=true then xP a b else -1)else if aM b=true then 1 else fw a b
def gj:List Str->List Str->Int
 |a::l,b::m=>if gJ a b=0 then gj l m else gJ a b
 |l,m=>bj l.length m.length
def fP(a b:Vers):Int:=
 if ¬bj a.major b.major=0 then bj a.major b.major else if ¬bj a.minor b.minor=0 then bj a.minor b.minor else if ¬bj a.patch b.patch=0 then bj a.patch b.patch
 else if a.pre=[]then(if b.pre=[]then 0 else 1)else if b.pre=[]then -1 else gj (splitB 46 a.pre) (splitB 46 b.pre)
theorem DN(s:Str):gJ s s=0:=by unfold gJ xP;rw[oz,oA,oA];by_cases h:aM s=true<;>simp[h]
theorem uo:∀l:List Str,gj l l=0
 |[]=>rfl
 |a::l=>by rw[gj,DN,Kf rfl,uo l]
theorem DO(v:Vers):fP v v=0:=by unfold fP;simp only[oz,uo,not_true,KP];split<;>rfl
theorem Gm(l:List Str):gj l []=bj l.length 0:=by cases l<;>rfl
theorem Gn(l:List Str):gj [] l=bj 0 l.length:=by cases l<;>rfl
theorem uq{l m:List Str}{k:Nat}(h1:k<l.length)(h2:k<m.length) :
  gj (l.drop k) (m.drop k)=if gJ (l.getD k (dfl .str)) (m.getD k (dfl .str))=0 then gj (l.drop (k+1)) (m.drop (k+1))else gJ (l.getD k (dfl .str)) (m.getD k (dfl .str)):=by
 rw[ai l k (dfl .str) h1,ai m k (dfl .str) h2,gj]
theorem Gp(a b k:Nat)(h1:k<=a)(h2:k<=b):bj ((a-k:Nat):Int) ((b-k:Nat):Int)=bj a b:=by
 unfold bj;have e1:((a-k:Nat):Int)<((b-k:Nat):Int)↔(a:Int)<b:=by omega
 have e2:((b-k:Nat):Int)<((a-k:Nat):Int)↔(b:Int)<a:=by omega
 simp only[e1,e2]
theorem xQ{l m:List Str}{k:Nat}(h1:k<=l.length)(h2:k<=m.length)(h:k=l.length∨k=m.length):gj (l.drop k) (m.drop k)=bj l.length m.length:=by
 rw[<-Gp l.length m.length k h1 h2];rcases h with rfl|rfl
 ·rw[Km,Gn,LY,Ny];rfl
 ·rw[Km,Gm,LY,Ny];rfl
def Gq(p c:Int):Bool:=
 if p=1 then decide (c<0)else if p=2 then decide (c<=0)else if p=3 then decide (c=0)else if p=4 then decide (0<=c)else if p=5 then decide (0<c)else false
def lI(v:Vers)(b:Bnd):Bool:=Gq b.op (fP v b.v)
theorem AB(p c:Int){N Y:Prop}(nx:Gq p c=false->N)(yx:Gq p c=true->Y) :
  if decide (p=1)=true then(if decide (0<=c)=true then N else Y)else if decide (p=2)=true then(if decide (0<c)=true then N else Y)else if decide (p=3)=true then(if(!decide (c=0))=true then N else Y)
  else if decide (p=4)=true then(if decide (c<0)=true then N else Y)else if decide (p=5)=true then(if decide (c<=0)=true then N else Y)else N:=by
 unfold Gq at nx yx;apply aa<;>intro h
 ·rw[Kf (Xo h)]at nx yx;exact aa (fun e=>nx (Xf (by have:=Xo e;omega))) (fun e=>yx (Xd (by have:¬0<=c:=fun k=>e (Xd k);omega)))
 rw[Kb (fun e=>h (Xd e))]at nx yx;apply aa<;>intro h
 ·rw[Kf (Xo h)]at nx yx;exact aa (fun e=>nx (Xf (by have:=Xo e;omega))) (fun e=>yx (Xd (by have:¬0<c:=fun k=>e (Xd k);omega)))
 rw[Kb (fun e=>h (Xd e))]at nx yx;apply aa<;>intro h
 ·rw[Kf (Xo h)]at nx yx;exact aa (fun e=>nx (Xf (by simpa using e))) (fun e=>yx (Xd (by simpa using e)))
 rw[Kb (fun e=>h (Xd e))]at nx yx;apply aa<;>intro h
 ·rw[Kf (Xo h)]at nx yx;exact aa (fun e=>nx (Xf (by have:=Xo e;omega))) (fun e=>yx (Xd (by have:¬c<0:=fun k=>e (Xd k);omega)))
 rw[Kb (fun e=>h (Xd e))]at nx yx;apply aa<;>intro h
 ·rw[Kf (Xo h)]at nx yx;exact aa (fun e=>nx (Xf (by have:=Xo e;omega))) (fun e=>yx (Xd (by have:¬c<=0:=fun k=>e (Xd k);omega)))
 rw[Kb (fun e=>h (Xd e))]at nx yx;exact nx rfl
def bB(v:Vers)(l:List Bnd):Bool:=l.all (lI v)
def fx(b:Bnd):Bool:=decide (1<=b.op/\b.op<=5)&&decide (bq b.v=0)
def gZ(l:List Bnd):Int:=if 20<l.length then 50 else if l.all fx=true then 0 else 50
def rY(n:Int):Str:=if n=1 then[60]else if n=2 then[60,61]else if n=3 then[61]else if n=4 then[62,61]else if n=5 then[62]else[]
theorem Gr(n:Int):rY n=[]↔¬(1<=n/\n<=5):=by
 unfold rY
 repeat' split
 all_goals simp
 all_goals omega
theorem mF{v:Vers}(h:bq v=0):v.pre.length<=24:=by
 unfold bq at h;split at h
 ·exact absurd h (by decide)
 ·split at h
  ·exact absurd h (by decide)
  ·omega
def orI:List Int->Int
 |[]=>0
 |a::l=>if a=0 then orI l else a
def nzT(a b:Str):Int:=if a=[]/\b=[]then 0 else 1
theorem AD{c:UInt8}{r:Str}(h:c=48):cb (c::r)=cb r:=by unfold cb;rw[M9,Kf (Xd h)]
theorem AE{c:UInt8}{r:Str}(h:¬c=48):cb (c::r)=c::r:=by unfold cb;rw[M9,Kb (fun e=>h (Xo e))]
theorem oB{a b:Int}(h:bj a b=0):a=b:=by
 unfold bj at h;split at h
 ·exact absurd h (by decide)
 ·split at h
  ·exact absurd h (by decide)
  ·omega
theorem ur{a b c:Int}:orI [a,b,c]=if ¬a=0 then a else if ¬b=0 then b else if ¬c=0 then c else 0:=by
 simp only[orI]
 repeat' split
 all_goals simp_all
theorem xR{a b c:Int}:orI [a,b,c]=0↔a=0/\b=0/\c=0:=by
 rw[ur]
 repeat' split
 all_goals simp_all
theorem uu:∀{l:List Int} {k:Nat},(∀j<k,l.getD j 0=0)->k<l.length->¬l.getD k 0=0->orI l=l.getD k 0
 |a::l,0,_,_,h=>by rw[orI,Kb (by simpa using h)];rfl
 |a::l,k+1,h0,hk,h=>by
  have e:a=0:=by simpa using h0 0 (by omega)
  rw[orI,Kf e];have:=uu (l:=l) (k:=k) (fun j hj=>by simpa using h0 (j+1) (by omega)) (by simpa using hk) (by simpa using h);rw[this];simp
 |[],_,_,hk,_=>by simp at hk
def kV(a b:Vers):Int:=orI [bj a.major b.major,bj a.minor b.minor,bj a.patch b.patch]
theorem vW(a b:Vers):fP a b=if ¬kV a b=0 then kV a b else if a.pre=[]then(if b.pre=[]then 0 else 1)else if b.pre=[]then -1 else gj (splitB 46 a.pre) (splitB 46 b.pre):=by
 unfold fP kV;rw[ur];by_cases h1:bj a.major b.major=0
 ·by_cases h2:bj a.minor b.minor=0
  ·by_cases h3:bj a.patch b.patch=0
   ·simp only[h1,h2,h3,not_true,KP]
   ·simp only[h1,h2,h3,not_true,KP,Ml,Lf]
  ·simp only[h1,h2,not_true,KP,Ml,Lf]
 ·simp only[h1,Ml,Lf]
theorem Gs{a b:Vers}(h:kV a b=0)(hp:a.pre=b.pre):a=b:=by obtain⟨h1,h2,h3⟩:=xR.1 h;cases a;cases b;simp only at h1 h2 h3 hp;rw[oB h1,oB h2,oB h3,hp]
theorem Gt(a b:Int):-1<=bj a b/\bj a b<=1:=by
 unfold bj;split
 ·omega
 ·split<;>omega
theorem Ik(a b:Str):nzT a b=0∨nzT a b=1:=by
 unfold nzT;split
 ·exact .inl rfl
 ·exact .inr rfl
theorem Js{a b:Vers}(h:kV a b=0)(hp:a.pre=[]∨b.pre=[]):bj b.pre.length a.pre.length *nzT a.pre b.pre=fP a b:=by
 rw[vW,Kb (fun e=>e h)];have pos:∀{s:Str},¬s=[]->(0:Int)<s.length:=fun{s} e=>by have:=Ls.2 e;omega
 by_cases ha:a.pre=[]
 ·by_cases hb:b.pre=[]
  ·rw[Kf ha,Kf hb,nzT,Kf ⟨ha,hb⟩,Int.mul_zero]
  ·have:=pos hb;rw[Kf ha,Kb hb,nzT,Kb (fun e=>hb e.2),Int.mul_one,ha];unfold bj;simp only[KT];rw[Kb (by omega),Kf (by omega)]
 ·have hb:b.pre=[]:=hp.resolve_left ha;have:=pos ha;rw[Kb ha,Kf hb,nzT,Kb (fun e=>ha e.1),Int.mul_one,hb];unfold bj;simp only[KT];rw[Kf (by omega)]
theorem oC(c:UInt8):∀(s:Str),∀x∈splitB c s,x.length<=s.length
 |[],x,h=>by rw[L2.1 h];exact Kn _
 |b::r,x,h=>by
  have ih:=oC c r;unfold splitB at h;split at h
  ·rcases Ks.1 h with e|e
   ·rw[e];exact Kg _
   ·exact Nat.le_succ_of_le (ih x e)
  ·split at h
   ·rw[L2.1 h];exact Nat.succ_le_succ (Kg _)
   ·rename_i p ps e0;rcases Ks.1 h with e|e
    ·rw[e];exact Nat.succ_le_succ (ih p (by rw[e0];exact KK ..))
    ·exact Nat.le_succ_of_le (ih x (by rw[e0];exact Kx _ e))
theorem Gu(a b:Str):Op.bytesLess a b=decide (a<b):=Go.Proofs.bytesLess_eq a b
theorem CD:∀a b:Str,a<b∨a=b∨b<a
 |[],[]=>.inr (.inl rfl)
 |[],b::y=>.inl (Nj b y)
 |a::x,[]=>.inr (.inr (Nj a x))
 |a::x,b::y=>by
  rcases Gl a b with h|h|h
  ·exact .inl (Lq.2 (.inl h))
  ·subst h;rcases CD x y with k|k|k
   ·exact .inl (Lq.2 (.inr ⟨rfl,k⟩))
   ·exact .inr (.inl (by rw[k]))
   ·exact .inr (.inr (Lq.2 (.inr ⟨rfl,k⟩)))
  ·exact .inr (.inr (Lq.2 (.inl h)))
theorem DQ{a b:Str}(h1:¬a<b)(h2:¬a=b):b<a:=by
 rcases CD a b with h|h|h
 ·exact absurd h h1
 ·exact absurd h h2
 ·exact h
theorem CE{l:List Bnd}(h:l.all fx=false):(50:Int)=gZ l:=by
 unfold gZ;rw[h];split
 ·rfl
 ·rfl
theorem xS{l:List Bnd}(hl:¬20<l.length)(h:l.all fx=true):(0:Int)=gZ l:=by unfold gZ;rw[h,Kb hl,Kf rfl]
end Go.Pd
end
section
namespace Go.Pd
open Go.AL
variable {l:List Tokn} {R:PS->Trm×PS}
end Go.Pd
namespace Go.Pd
open Go.AL
structure TokG(t:Tokn):Prop where
 kind:¬t.kind=0
 name:t.kind=1->au t.text=true
 upper:t.kind=2->bO t.text=true
 num:t.kind=3->rL t.text
 pos:0<=t.pos
end Go.Pd
namespace Go.Pd
open Go.AL
end Go.Pd
end
section
namespace Go.Pd
open Go.AL
def J1(env:Envt)(b:List Bndg):Envt:=⟨env.self,env.types,env.values++b,env.own⟩
end Go.Pd
end
noncomputable section
namespace Go.Pd
open Go.AL
def AF:List Bndg->Str->Str->Option Shape
 |[],_,_=>none
 |b::r,o,m=>match AF r o m with
  |some s=>some s
  |none=>if b.pkg=o/\b.name=m then some b.shape else none
end Go.Pd
end
section
namespace Go.Pd
open Go.AL
structure RoomR(t:Trm):Prop where
 k6:t.kind=6->t.names.length<=4096/\t.shapes.length=t.names.length/\t.parts.length=1
 k7:t.kind=7->0<t.parts.length
 k1:t.kind=9∨t.kind=10∨t.kind=16∨t.kind=17->t.parts.length=1
 k11:t.kind=11->t.shapes.length=1
 k12:t.kind=12->t.shapes.length=1/\t.parts.length=3
 k13:t.kind=13->t.vars.length=t.names.length/\t.shapes.length=t.names.length+1/\t.parts.length=t.names.length+1
 k14:t.kind=14->t.parts.length=2
 k15:t.kind=15->t.shapes.length=1/\t.parts.length=1
 all:1<=t.kind/\t.kind<=17
end Go.Pd
end
section
namespace Go.Pd
open Go.AL
section Agree
variable {T U:Trm->Envt->Shape×Flt} {R:Envt->Envt->Prop} {Q:Trm->Prop}
variable (hT:∀p,Q p->∀e f,R e f->T p e=U p f) (hW:∀e f l,R e f->R (J1 e l) (J1 f l))
include hT
include hW
end Agree
structure Alike(b:Bndg)(e f:Envt):Prop where
 types:e.types=f.types
 own:e.own=f.own
 self:e.self=f.self
 vals:∀o m,¬(o=b.pkg/\m=b.name)->AF e.values o m=AF f.values o m
end Go.Pd
end
section
namespace Go.Pd
open Go.AL
abbrev SR3:=Shape×Int×Flt
abbrev TR3:=Trm×Int×Flt
end Go.Pd
end
section
namespace Go.Pd
open Go.AL
abbrev st(l:List Tokn)(a:Int):PS:=⟨l,a,0,0⟩
variable {l:List Tokn}
section
variable {l:List Tokn} {R:PS->Shape×PS} {R':Int->SR3}
end
end Go.Pd
end
section
namespace Go.AL
variable [Tabs]
section
variable {P:Program}
def p4(τ σ ρ μ:Ty)(F:den τ->den σ->den ρ->den μ->Ans):Pat
 |[a,b,c,d],[]=>(match arg τ a,arg σ b,arg ρ c,arg μ d with|some a,some b,some c,some d=>some (F a b c d)|_,_,_,_=>none)
 |_,_=>none
def p5(τ σ ρ μ ν:Ty)(F:den τ->den σ->den ρ->den μ->den ν->Ans):Pat
 |[a,b,c,d,e],[]=>(match arg τ a,arg σ b,arg ρ c,arg μ d,arg ν e with|some a,some b,some c,some d,some e=>some (F a b c d e)|_,_,_,_,_=>none)
 |_,_=>none
theorem K0{f:Nat}{τ σ ρ μ ν:Ty}{F:den τ->den σ->den ρ->den μ->den ν->Ans}(he:aB P f)
 (h:∀x y z u v,Wf τ x->Wf σ y->Wf ρ z->(∀q,(F x y z u v).ob=some q->q)->aF P f [inj τ x,inj σ y,inj ρ z,inj μ u,inj ν v] [] (F x y z u v)):ag P f (p5 τ σ ρ μ ν F):=by
 intro args S A hA ho _;unfold p5 at hA;split at hA
 ·split at hA
  ·rename_i x y z u v hx hy hz hu hv;simp at hA;subst hA;exact⟨he,aF.args (.cons (Rd.arg hx) (.cons (Rd.arg hy) (.cons (Rd.arg hz) (.cons (Rd.arg hu) (.cons (Rd.arg hv) .nil))))) (aF.wf fun hw=>h x y z u v hw.one hw.two hw.three ho)⟩
  ·cases hA
 ·cases hA
end
end Go.AL
end
section
namespace Go.Pd
open Go.AL
def eC(p:Int):Bool:=decide (0<=p)&&decide (p<=1114111)&&(decide (p<55296)||decide (57343<p))
def jq(n:Int):UInt8:=UInt8.ofNat n.toNat
def cX(p:Int):Str:=
 if p<128 then[jq p]
 else if p<2048 then[jq (192+p/64),jq (128+p%64)]
 else if p<65536 then[jq (224+p/4096),jq (128+p/64%64),jq (128+p%64)]
 else[jq (240+p/262144),jq (128+p/4096%64),jq (128+p/64%64),jq (128+p%64)]
def bU(s:Str):Nat:=if 240<=bI (s.getD 0 0)then 4 else if 224<=bI (s.getD 0 0)then 3 else if 192<=bI (s.getD 0 0)then 2 else 1
def fU(s:Str):Int:=if 240<=bI (s.getD 0 0)then bI (s.getD 0 0)-240 else if 224<=bI (s.getD 0 0)then bI (s.getD 0 0)-224 else if 192<=bI (s.getD 0 0)then bI (s.getD 0 0)-192 else bI (s.getD 0 0)
def aT(s:Str):Nat->Int
 |0=>fU s
 |1=>fU s
 |k+2=>aT s (k+1) *64+bI (s.getD (k+1) 0)-128
def gO(s:Str):Int×Int:=
 if s=[]then(0,0)else if s.length<bU s then(0,0)
 else if eC (aT s (bU s))=true/\cX (aT s (bU s))=s.take (bU s)then(aT s (bU s),bU s)else(0,0)
end Go.Pd
end
section
namespace Go.Pd
open Go.AL
theorem eM{n:Int}{b:UInt8}(h0:0<=n)(h1:n<=255):jq n=b↔n=bI b:=by
 unfold jq bI;constructor
 ·intro e;rw[<-e,UInt8.toNat_ofNat'];have:n.toNat%2 ^ 8=n.toNat:=Nat.mod_eq_of_lt (by omega);rw[this];omega
 ·intro e;rw[e,Kh];exact UInt8.ofNat_toNat
theorem Gv{p:Int}(h:0<=p)(a:UInt8):cX p=[a]↔p<128/\p=bI a:=by
 unfold cX;split
 ·simp only[L7,KI];rw[eM h (by omega)];omega
 ·refine⟨fun e=>?_,fun e=>by omega⟩;revert e;split<;>(try split)<;>simp
theorem Gw{p:Int}(h:0<=p)(a b:UInt8):cX p=[a,b]↔128<=p/\p<2048/\192+p/64=bI a/\128+p%64=bI b:=by
 unfold cX;split
 ·refine⟨fun e=>?_,fun e=>by omega⟩;simp at e
 split
 ·simp only[L7,KI];rw[eM (by omega) (by omega),eM (by omega) (by omega)];omega
 ·refine⟨fun e=>?_,fun e=>by omega⟩;revert e;split<;>simp
theorem Gx{p:Int}(h:0<=p)(a b c:UInt8):cX p=[a,b,c]↔2048<=p/\p<65536/\224+p/4096=bI a/\128+p/64%64=bI b/\128+p%64=bI c:=by
 unfold cX;split
 ·refine⟨fun e=>?_,fun e=>by omega⟩;simp at e
 split
 ·refine⟨fun e=>?_,fun e=>by omega⟩;simp at e
 split
 ·simp only[L7,KI];rw[eM (by omega) (by omega),eM (by omega) (by omega),eM (by omega) (by omega)];omega
 ·refine⟨fun e=>?_,fun e=>by omega⟩;simp at e
theorem Gy{p:Int}(h:0<=p)(hp:p<=1114111)(a b c d:UInt8):cX p=[a,b,c,d]↔65536<=p/\240+p/262144=bI a/\128+p/4096%64=bI b/\128+p/64%64=bI c/\128+p%64=bI d:=by
 unfold cX;split
 ·refine⟨fun e=>?_,fun e=>by omega⟩;simp at e
 split
 ·refine⟨fun e=>?_,fun e=>by omega⟩;simp at e
 split
 ·refine⟨fun e=>?_,fun e=>by omega⟩;simp at e
 ·simp only[L7,KI];rw[eM (by omega) (by omega),eM (by omega) (by omega),eM (by omega) (by omega),eM (by omega) (by omega)];omega
theorem jQ(p:Int):eC p=true↔0<=p/\p<=1114111/\(p<55296∨57343<p):=by unfold eC;simp only[Ka,L6,Kc,and_assoc]
theorem xT(s:Str):(gO s).2=(iB s:Int):=by
 match s with
 |[]=>rfl
 |b::r=>
  rw[G8];have hb:=Mw b;have e0:bI ((b::r).getD 0 0)=(b.toNat:Int):=rfl;unfold gO;rw[Kb (List.cons_ne_nil _ _)];by_cases c4:240<=(b.toNat:Int)
  ·have hL:bU (b::r)=4:=by unfold bU;rw[e0,Kf c4]
   rw[hL]
   match r with
   |[]=>rw[Kf (by simp)];unfold kP;simp only[KT];(repeat' split)<;>first|rfl|omega
   |[c1]=>rw[Kf (by simp)];unfold kP;simp only[Kq,KT];(repeat' split)<;>first|rfl|omega
   |[c1,c2]=>rw[Kf (by simp)];unfold kP;simp only[Kq,KT];(repeat' split)<;>first|rfl|omega
   |c1::c2::c3::r=>
    have h1:=Mw c1;have h2:=Mw c2;have h3:=Mw c3
    have hf:aT (b::c1::c2::c3::r) 4=((((b.toNat:Int)-240) *64+c1.toNat-128) *64+c2.toNat-128) *64+c3.toNat-128:=by
     have:fU (b::c1::c2::c3::r)=(b.toNat:Int)-240:=by unfold fU;rw[show bI ((b::c1::c2::c3::r).getD 0 0)=(b.toNat:Int)from rfl,Kf c4]
     unfold aT aT aT aT;rw[this];rfl
    rw[Kb (by simp),hf];have ht:(b::c1::c2::c3::r).take 4=[b,c1,c2,c3]:=rfl;rw[ht];generalize hp:((((b.toNat:Int)-240) *64+c1.toNat-128) *64+c2.toNat-128) *64+c3.toNat-128=p;have key:(eC p=true/\cX p=[b,c1,c2,c3])↔(0<=p/\p<=1114111/\(p<55296∨57343<p))/\(65536<=p/\240+p/262144=(b.toNat:Int)/\128+p/4096%64=(c1.toNat:Int)/\128+p/64%64=(c2.toNat:Int)/\128+p%64=(c3.toNat:Int)):=by rw[jQ];exact and_congr_right fun e=>Gy e.1 e.2.1 _ _ _ _
    unfold kP;simp only[Kq,Nw,MW];rw[show p/4096=p/64/64 by omega,show p/262144=p/64/64/64 by omega]at key;generalize hu:p/64=u at key;generalize hv:u/64=v at key;generalize hw:v/64=w at key;split
    ·next h=>
     have h:=key.1 h;have x0:b.toNat/8=30/\c1.toNat/64=2/\c2.toNat/64=2/\c3.toNat/64=2:=by omega
     have x1:b.toNat%8 *262144+c1.toNat%64 *4096+c2.toNat%64 *64+c3.toNat%64=p.toNat:=by omega
     rw[x1,Kb (by omega),Kb (by omega),Kb (by omega),Kf ⟨x0.1,⟨by omega,x0.2.1⟩,⟨by omega,x0.2.2.1⟩,by omega,x0.2.2.2⟩,Kf (by omega)]
    ·next h=>
     by_cases x0:b.toNat/8=30/\c1.toNat/64=2/\c2.toNat/64=2/\c3.toNat/64=2
     ·have x1:((b.toNat%8 *262144+c1.toNat%64 *4096+c2.toNat%64 *64+c3.toNat%64:Nat):Int)=p:=by omega
      have x2:¬((b.toNat%8 *262144+c1.toNat%64 *4096+c2.toNat%64 *64+c3.toNat%64)≥65536/\((b.toNat%8 *262144+c1.toNat%64 *4096+c2.toNat%64 *64+c3.toNat%64)<55296∨57344<=(b.toNat%8 *262144+c1.toNat%64 *4096+c2.toNat%64 *64+c3.toNat%64)/\(b.toNat%8 *262144+c1.toNat%64 *4096+c2.toNat%64 *64+c3.toNat%64)<=1114111)):=fun e=>h (key.2 ⟨by omega,by omega⟩);rw[Kb (by omega),Kb (by omega),Kb (by omega),Kf ⟨x0.1,⟨by omega,x0.2.1⟩,⟨by omega,x0.2.2.1⟩,by omega,x0.2.2.2⟩,Kb x2];rfl
     ·rw[Kb (by omega),Kb (by omega),Kb (by omega),Kb (fun e=>x0 ⟨e.1,e.2.1.2,e.2.2.1.2,e.2.2.2.2⟩)];rfl
  by_cases c3:224<=(b.toNat:Int)
  ·have hL:bU (b::r)=3:=by unfold bU;rw[e0,Kb c4,Kf c3]
   rw[hL]
   match r with
   |[]=>rw[Kf (by simp)];unfold kP;simp only[KT];(repeat' split)<;>first|rfl|omega
   |[c1]=>rw[Kf (by simp)];unfold kP;simp only[Kq,KT];(repeat' split)<;>first|rfl|omega
   |c1::c2::r=>
    have h1:=Mw c1;have h2:=Mw c2
    have hf:aT (b::c1::c2::r) 3=(((b.toNat:Int)-224) *64+c1.toNat-128) *64+c2.toNat-128:=by
     have:fU (b::c1::c2::r)=(b.toNat:Int)-224:=by unfold fU;rw[show bI ((b::c1::c2::r).getD 0 0)=(b.toNat:Int)from rfl,Kb c4,Kf c3]
     unfold aT aT aT;rw[this];rfl
    rw[Kb (by simp),hf];have ht:(b::c1::c2::r).take 3=[b,c1,c2]:=rfl;rw[ht];generalize hp:(((b.toNat:Int)-224) *64+c1.toNat-128) *64+c2.toNat-128=p;have key:(eC p=true/\cX p=[b,c1,c2])↔(0<=p/\p<=1114111/\(p<55296∨57343<p))/\(2048<=p/\p<65536/\224+p/4096=(b.toNat:Int)/\128+p/64%64=(c1.toNat:Int)/\128+p%64=(c2.toNat:Int)):=by rw[jQ];exact and_congr_right fun e=>Gx e.1 _ _ _
    unfold kP;simp only[Kq,Nw,MW];rw[show p/4096=p/64/64 by omega]at key;generalize hu:p/64=u at key;generalize hv:u/64=v at key;split
    ·next h=>
     have h:=key.1 h;have x0:b.toNat/16=14/\c1.toNat/64=2/\c2.toNat/64=2:=by omega
     have x1:b.toNat%16 *4096+c1.toNat%64 *64+c2.toNat%64=p.toNat:=by omega
     rw[x1,Kb (by omega),Kb (by omega),Kf ⟨x0.1,⟨by omega,x0.2.1⟩,by omega,x0.2.2⟩,Kf (by omega)]
    ·next h=>
     by_cases x0:b.toNat/16=14/\c1.toNat/64=2/\c2.toNat/64=2
     ·have x1:((b.toNat%16 *4096+c1.toNat%64 *64+c2.toNat%64:Nat):Int)=p:=by omega
      have x2:¬((b.toNat%16 *4096+c1.toNat%64 *64+c2.toNat%64)≥2048/\((b.toNat%16 *4096+c1.toNat%64 *64+c2.toNat%64)<55296∨57344<=(b.toNat%16 *4096+c1.toNat%64 *64+c2.toNat%64)/\(b.toNat%16 *4096+c1.toNat%64 *64+c2.toNat%64)<=1114111)):=fun e=>h (key.2 ⟨by omega,by omega⟩);rw[Kb (by omega),Kb (by omega),Kf ⟨x0.1,⟨by omega,x0.2.1⟩,by omega,x0.2.2⟩,Kb x2];rfl
     ·rw[Kb (by omega),Kb (by omega),Kb (fun e=>x0 ⟨e.1,e.2.1.2,e.2.2.2⟩),Kb (by omega)];rfl
  by_cases c2:192<=(b.toNat:Int)
  ·have hL:bU (b::r)=2:=by unfold bU;rw[e0,Kb c4,Kb c3,Kf c2]
   rw[hL]
   match r with
   |[]=>rw[Kf (by simp)];unfold kP;simp only[KT];(repeat' split)<;>first|rfl|omega
   |c1::r=>
    have h1:=Mw c1
    have hf:aT (b::c1::r) 2=((b.toNat:Int)-192) *64+c1.toNat-128:=by
     have:fU (b::c1::r)=(b.toNat:Int)-192:=by unfold fU;rw[show bI ((b::c1::r).getD 0 0)=(b.toNat:Int)from rfl,Kb c4,Kb c3,Kf c2]
     unfold aT aT;rw[this];rfl
    rw[Kb (by simp),hf];have ht:(b::c1::r).take 2=[b,c1]:=rfl;rw[ht];generalize hp:((b.toNat:Int)-192) *64+c1.toNat-128=p;have key:(eC p=true/\cX p=[b,c1])↔(0<=p/\p<=1114111/\(p<55296∨57343<p))/\(128<=p/\p<2048/\192+p/64=(b.toNat:Int)/\128+p%64=(c1.toNat:Int)):=by rw[jQ];exact and_congr_right fun e=>Gw e.1 _ _
    unfold kP;simp only[Kq,Nw,MW];generalize hu:p/64=u at key;split
    ·next h=>
     have h:=key.1 h;have x0:b.toNat/32=6/\c1.toNat/64=2:=by omega
     have x1:b.toNat%32 *64+c1.toNat%64=p.toNat:=by omega
     rw[x1,Kb (by omega),Kf ⟨x0.1,by omega,x0.2⟩,Kf (by omega)]
    ·next h=>
     by_cases x0:b.toNat/32=6/\c1.toNat/64=2
     ·have x1:((b.toNat%32 *64+c1.toNat%64:Nat):Int)=p:=by omega
      generalize b.toNat%32 *64+c1.toNat%64=q at x1⊢;have x2:¬(q≥128):=fun e=>h (key.2 ⟨by omega,by omega⟩);rw[Kb (by omega),Kf ⟨x0.1,by omega,x0.2⟩,Kb x2];rfl
     ·rw[Kb (by omega),Kb (fun e=>x0 ⟨e.1,e.2.2⟩),Kb (by omega),Kb (by omega)];rfl
  ·have hL:bU (b::r)=1:=by unfold bU;rw[e0,Kb c4,Kb c3,Kb c2]
   rw[hL,Kb (by simp)];have hf:aT (b::r) 1=(b.toNat:Int):=by unfold aT fU;rw[e0,Kb c4,Kb c3,Kb c2]
   rw[hf];have ht:(b::r).take 1=[b]:=rfl;rw[ht]
   have key:(eC (b.toNat:Int)=true/\cX (b.toNat:Int)=[b])↔(b.toNat:Int)<128:=by
    rw[jQ,Gv (by omega)];constructor
    ·exact fun e=>e.2.1
    ·exact fun e=>⟨by omega,e,rfl⟩
   by_cases h:b.toNat<128
   ·rw[Kf (key.2 (by omega))];unfold kP;rw[Kf h]
   ·rw[Kb (fun e=>h (by have:=key.1 e;omega))];unfold kP;rw[Kb h,Kb (by omega),Kb (by omega),Kb (by omega)];rfl
theorem Il(s:Str):iB s<=s.length:=by
 by_cases h:s=[]
 ·subst h;exact Kn _
 by_cases e:iB s=0
 ·omega
 obtain⟨_,h2,_,_,h5⟩:=rN h;have:=h2 e;omega
theorem CF{s:Str}{n:Nat}(h:n<=s.length):n+iB (s.drop n)<=s.length:=by have:=Il (s.drop n);rw[LY]at this;omega
end Go.Pd
end
section
namespace Go.Pd
open Go.AL
mutual
def dr:Trm->Int->Int
 |⟨_,_,_,_,_,_,_,ps,_⟩,m=>sizeTL ps 1 m
def sizeTL:List Trm->Int->Int->Int
 |[],n,_=>n
 |p::r,n,m=>if n<=m then sizeTL r (n+dr p (m-n)) m else n
end
mutual
def deepT:Trm->Nat
 |⟨_,_,_,_,_,_,_,ps,_⟩=>maxDT ps+1
def maxDT:List Trm->Nat
 |[]=>0
 |p::r=>max (deepT p) (maxDT r)
end
mutual
theorem sizeT_bd:∀(s:Trm)(m:Int),0<=m->1<=dr s m/\dr s m<=m+1
 |⟨_,_,_,_,_,_,_,ps,_⟩,m,h=>by simp only[dr];exact sizeTL_bd ps 1 m (by omega) (by omega)
theorem sizeTL_bd:∀(l:List Trm)(n m:Int),1<=n->n<=m+1->1<=sizeTL l n m/\sizeTL l n m<=m+1
 |[],n,m,h1,h2=>by simp only[sizeTL];omega
 |p::r,n,m,h1,h2=>by
  simp only[sizeTL];split
  ·have:=sizeT_bd p (m-n) (by omega);exact sizeTL_bd r _ m (by omega) (by omega)
  ·omega
end
mutual
theorem deepT_sz:∀s:Trm,deepT s<=szT s
 |⟨_,_,_,_,_,_,_,ps,_⟩=>by have:=maxDT_sz ps;simp only[deepT,szT];omega
theorem maxDT_sz:∀l:List Trm,maxDT l<=szTL l
 |[]=>Kn _
 |p::r=>by have:=deepT_sz p;have:=maxDT_sz r;simp only[maxDT,szTL];omega
end
mutual
theorem sizeT_eq:∀(s:Trm)(m:Int),0<=m->dr s m=min (szT s:Int) (m+1)
 |⟨_,_,_,_,_,_,_,ps,_⟩,m,h=>by simp only[dr,szT];rw[sizeTL_eq ps 1 m (by omega)];omega
theorem sizeTL_eq:∀(l:List Trm)(n m:Int),n<=m+1->sizeTL l n m=min (n+szTL l) (m+1)
 |[],n,m,h=>by simp only[sizeTL,szTL];omega
 |p::r,n,m,h=>by
  simp only[sizeTL,szTL];have:=eo p;split
  ·rw[sizeT_eq p (m-n) (by omega),sizeTL_eq r _ m (by omega)];omega
  ·omega
end
mutual
theorem countT_size:∀(s:Trm)(m:Int),0<=m->(countT s m).1=min (szT s:Int) (m+1)
 |⟨_,_,_,_,_,_,_,ps,_⟩,m,h=>by simp only[countT,szT];rw[countL_size ps m 1 0 (by omega)];omega
theorem countL_size:∀(l:List Trm)(m n d:Int),n<=m+1->(countL l m n d).1=min (n+szTL l) (m+1)
 |[],m,n,d,h=>by simp only[countL,szTL];omega
 |p::r,m,n,d,h=>by
  simp only[countL,szTL];have:=eo p;split
  ·show n=_;omega
  ·rw[countL_size r m _ _ (by rw[countT_size p (m-n) (by omega)];omega),countT_size p (m-n) (by omega)];omega
end
mutual
theorem countT_deep:∀(s:Trm)(m:Int),(szT s:Int)<=m->(countT s m).2=deepT s
 |⟨_,_,_,_,_,_,_,ps,_⟩,m,h=>by simp only[szT]at h;simp only[countT,deepT];rw[countL_deep ps m 1 0 (by omega) (by omega)];omega
theorem countL_deep:∀(l:List Trm)(m n d:Int),n+szTL l<=m->0<=d->(countL l m n d).2=max d (maxDT l)
 |[],m,n,d,h,h0=>by simp only[countL,maxDT];omega
 |p::r,m,n,d,h,h0=>by
  simp only[szTL]at h;simp only[countL,maxDT];rw[Kb (by omega)];have e1:(countT p (m-n)).1=szT p:=by rw[countT_size p (m-n) (by omega)];omega
  rw[countL_deep r m _ _ (by rw[e1];omega) (by omega),countT_deep p (m-n) (by omega)];omega
end
theorem AG(t:Trm):db t=if 4096<dr t 4096 then 3 else if 40<(deepT t:Int)then 91 else if allT az t=true then 0 else 80:=by
 unfold db;rw[countT_size t 4096 (by omega),sizeT_eq t 4096 (by omega)];by_cases h:(4096:Int)<min (szT t:Int) (4096+1)
 ·rw[Kf h,Kf h]
 ·rw[Kb h,Kb h,countT_deep t 4096 (by omega)]
mutual
def eqT:Trm->Trm->Bool->Bool
 |⟨k,g,q,z,ns,vs,ss,ps,pp⟩,⟨k',g',q',z',ns',vs',ss',ps',pp'⟩,b=>
  decide (k=k')&&decide (g=g')&&decide (q=q')&&decide (z=z')&&(!b||decide (pp=pp'))&&decide (ns=ns')&&decide (vs=vs')&&eqL ss ss'&&eqTL ps ps' b
def eqTL:List Trm->List Trm->Bool->Bool
 |[],[],_=>true
 |x::r,y::s,b=>eqT x y b&&eqTL r s b
 |_,_,_=>false
end
theorem rZ:∀{l m:List Trm} {b:Bool},l.length≠m.length->eqTL l m b=false
 |[],[],_,h=>absurd rfl h
 |[],_::_,_,_=>rfl
 |_::_,[],_,_=>rfl
 |x::r,y::s,b,h=>by rw[eqTL,rZ (l:=r) (m:=s) (by simpa using h),KJ]
theorem fb(a c:Trm)(b:Bool):eqT a c b=(decide (a.kind=c.kind)&&decide (a.pkg=c.pkg)&&decide (a.name=c.name)&&decide (a.n=c.n)&&(!b||decide (a.pos=c.pos))&&decide (a.names=c.names)&&decide (a.vars=c.vars)&&eqL a.shapes c.shapes&&eqTL a.parts c.parts b):=by cases a;cases c;rw[eqT]
def eD(ns:List Str)(b:Bool):Bool:=ns.all au&&(!b||decide ns.Nodup)
def gK(t:Trm)(n v s p:Int):Bool:=decide ((t.names.length:Int)=n)&&decide ((t.vars.length:Int)=v)&&decide ((t.shapes.length:Int)=s)&&decide ((t.parts.length:Int)=p)
def jR(s:Str):Nat->Nat->List Int->List Int×Flt
 |0,_,acc=>(acc,⟨0,0⟩)
 |f+1,i,acc=>if i<s.length then(if iB (s.drop i)=0 then([],⟨30,i⟩)else jR s f (i+iB (s.drop i)) (acc++[(gO (s.drop i)).1]))else(acc,⟨0,0⟩)
def jb(s:Str):List Int×Flt:=jR s (s.length+1) 0 []
end Go.Pd
end
section
namespace Go.Pd
open Go.AL
mutual
def bareT:Trm->Trm
 |⟨k,g,n,z,ns,vs,ss,ps,_⟩=>⟨k,g,n,z,ns,vs,ss,bareTL ps,0⟩
def bareTL:List Trm->List Trm
 |[]=>[]
 |p::r=>bareT p::bareTL r
end
end Go.Pd
end
section
namespace Go.Pd
open Go.AL
def zapF(f:Flt):Flt:=⟨f.err,0⟩
def zapR(r:Shape×Flt):Shape×Flt:=(r.1,zapF r.2)
section Bare
variable {T:Trm->Envt->Shape×Flt} (hT:∀p e,T (bareT p) e=zapR (T p e))
include hT
end Bare
section Bare2
variable {T:Trm->Envt->Shape×Flt} (hT:∀p e,T (bareT p) e=zapR (T p e))
include hT
end Bare2
end Go.Pd
end
section
namespace Go.Pd
open Go.AL
theorem s7:∀(f:Nat)(s:Str)(i:Nat)(acc:List Int),s.length-i<f->i<=s.length->((jR s f i acc).2.err=0↔kQ s i=none)
 |0,s,i,acc,h,_=>absurd h (Nat.not_lt_zero _)
 |f+1,s,i,acc,h,hi=>by
  rw[jR];by_cases k:i<s.length
  ·rw[Kf k];by_cases b:iB (s.drop i)=0
   ·rw[Kf b,DG k b];simp
   ·rw[Kb b,Aq k b];have:=CF (s:=s) (n:=i) hi;exact s7 f s _ _ (by omega) this
  ·rw[Kb k,DF (by omega)];simp
theorem s8(s:Str):(jb s).2.err=0↔kO s=none:=by rw[<-Ap];exact s7 _ s 0 [] (by omega) (Kg _)
theorem AH{s:Str}(h:s.all df=true):decide ((jb s).2.err=0)=iT s:=by
 unfold iT;rw[h,KC]
 cases e:kO s with|none=>rw[Xd ((s8 s).2 e)];rfl|some k=>rw[Xf (fun q=>by have:=(s8 s).1 q;rw[e]at this;cases this)];rfl
theorem DR{c:Prop}[Decidable c]{a b:Bool}{P:Prop}(h:(if c then a else b)=true)(f:a=true->P)(g:b=true->P):P:=by
 by_cases k:c
 ·rw[Kf k]at h;exact f h
 ·rw[Kb k]at h;exact g h
theorem s9{t:Trm}(h:k9 t=true):kS t.names=true/\t.vars.all au=true:=by
 unfold k9 cJ at h
 repeat' (refine DR h (fun h=>?_) (fun h=>?_))
 all_goals simp only[Ka,Kc,Lg]at h
 all_goals refine⟨?_,?_⟩
 all_goals first
  |exact h.1.2|exact h.1.1.2
  |(have e1:=Kk (l:=t.vars) (by omega);rw[e1];rfl)
  |(have e1:=Kk (l:=t.names) (by omega);rw[e1];rfl)
  |exact h.elim
theorem AI{t:Trm}(h:eD t.names true=false):az t=false:=by rw[Lb];intro e;unfold az at e;rw[Ka]at e;have:=(s9 e.2).1;unfold kS at this;unfold eD at h;simp at this h;exact h this.1 this.2
theorem DS{t:Trm}(h:eD t.vars false=false):az t=false:=by rw[Lb];intro e;unfold az at e;rw[Ka]at e;have:=(s9 e.2).2;unfold eD at h;rw[this]at h;simp at h
def dt(t:Trm):Bool:=allT (fun x=>decide (x.name.length<=2000000)&&decide (x.names.length<=2000000)) t
theorem AJ{t x:Trm}(h:dt t=true)(hx:x∈t.parts):dt x=true:=by unfold dt at h⊢;rw[allT_eq,Ka,allTL_all]at h;exact Kp.1 h.2 x hx
theorem AK{t:Trm}(h:dt t=true):t.name.length<=2000000/\t.names.length<=2000000:=by unfold dt at h;rw[allT_eq,Ka,Ka,Kc,Kc]at h;exact h.1
end Go.Pd
end
section
namespace Go.Pd
open Go.AL
def noS(s:Shape):Bool:=decide (s.kind=0)&&decide (s.pkg=[])&&decide (s.name=[])&&decide (s.names.length+s.parts.length=0)
def noT(t:Trm):Bool:=decide (t.kind=0)&&decide (t.pkg=[])&&decide (t.name=[])&&decide (t.n=0)&&decide (t.pos=0)&&decide (t.names.length+t.vars.length+t.shapes.length+t.parts.length=0)
def D4:Shape:=⟨0,[],[],[],[]⟩
def nilT:Trm:=⟨0,[],[],0,[],[],[],[],0⟩
theorem Jt(s:Shape):eqS s D4=noS s:=by obtain⟨k,p,n,ns,ps⟩:=s;simp only[eqS,noS,D4];cases ns<;>cases ps<;>simp[eqL]
theorem Ju(t:Trm):eqT t nilT true=noT t:=by obtain⟨k,p,n,z,ns,vs,ss,ps,at'⟩:=t;simp only[eqT,noT,nilT];cases ns<;>cases vs<;>cases ss<;>cases ps<;>simp[eqL,eqTL]
def dZ:List Str:=[[73,110,116],[66,111,111,108],[84,101,120,116],[65,110,121]]
def gP(x:Impt):Bool:=au x.name&&decide (bq x.pin=0)&&decide (gZ x.range=0)&&bB x.pin x.range&&decide (0<=x.pos)
def cY(d:Dcl):Bool:=
 if d.kind=1∨d.kind=2 then bO d.name&&decide (bH d.shape=0)&&allS ao d.shape&&noT d.term
 else if d.kind=3 then au d.name&&decide (db d.term=0)&&noS d.shape else false
def gL(d:Dcl):Bool:=cY d&&decide (0<=d.pos)
def fQ(s:Str):Bool:=au s||bO s
def sa(m:Modu):Bool:=au m.name&&decide (m.imports.length<=8)&&decide (m.exports.length<=60)&&decide (0<=m.pos)
def Im(m:Modu):List Str:=m.name::m.imports.map (·.name)
def Io(m:Modu):List Str:=dZ++m.decls.map (·.name)
def okM(m:Modu):Bool:=sa m&&(m.imports.all gP&&(m.decls.all gL&&(m.exports.all fQ&&(decide (Im m).Nodup&&decide (Io m).Nodup&&decide m.exports.Nodup))))
def bu(m:Modu):Int:=if okM m=true then 0 else 100
def Ip(d:Dcl):Bool:=decide (d.shape.names.length<=17592186044416)&&(decide (d.shape.parts.length<=17592186044416)&&(decide (d.term.names.length<=17592186044416)&&(decide (d.term.vars.length<=17592186044416)&&(decide (d.term.shapes.length<=17592186044416)&&decide (d.term.parts.length<=17592186044416)))))
theorem xU{d:Dcl}:Ip d=true↔d.shape.names.length<=17592186044416/\d.shape.parts.length<=17592186044416/\d.term.names.length<=17592186044416/\d.term.vars.length<=17592186044416/\d.term.shapes.length<=17592186044416/\d.term.parts.length<=17592186044416:=by unfold Ip;simp only[Ka,Kc]
def bT(d:Dcl):Bool:=(dt d.term&&cG d.term)&&Ip d
theorem mG{d:Dcl}:bT d=true↔(dt d.term=true/\cG d.term=true)/\Ip d=true:=by unfold bT;simp only[Ka]
theorem xV{d:Dcl}(h:bT d=true):dt d.term=true/\cG d.term=true:=(mG.1 h).1
theorem Gz{d:Dcl}(h:bT d=true):d.shape.names.length<=17592186044416/\d.shape.parts.length<=17592186044416/\d.term.names.length<=17592186044416/\d.term.vars.length<=17592186044416/\d.term.shapes.length<=17592186044416/\d.term.parts.length<=17592186044416:=xU.1 (mG.1 h).2
theorem sb{m:Modu}(h:okM m=false):(100:Int)=bu m:=by unfold bu;rw[h];rfl
theorem pk{m:Modu}(h:okM m=true):(0:Int)=bu m:=by unfold bu;rw[h];rfl
theorem pn{m:Modu}(h:sa m=false):okM m=false:=by unfold okM;rw[h,Ki]
theorem sd{m:Modu}(h:m.imports.all gP=false):okM m=false:=by unfold okM;rw[h,Ki,KJ]
theorem se{m:Modu}(h:m.decls.all gL=false):okM m=false:=by unfold okM;rw[h,Ki,KJ,KJ]
theorem sf{m:Modu}(h:m.exports.all fQ=false):okM m=false:=by unfold okM;rw[h,Ki,KJ,KJ,KJ]
theorem GA{m:Modu}(h1:sa m=true)(h2:m.imports.all gP=true)(h3:m.decls.all gL=true)(h4:m.exports.all fQ=true) :
  okM m=(decide (Im m).Nodup&&decide (Io m).Nodup&&decide m.exports.Nodup):=by unfold okM;rw[h1,h2,h3,h4];rfl
theorem nk{m:Modu}:sa m=true↔au m.name=true/\m.imports.length<=8/\m.exports.length<=60/\0<=m.pos:=by unfold sa;simp only[Ka,Kc,and_assoc]
theorem qb{x:Impt}:gP x=true↔au x.name=true/\bq x.pin=0/\gZ x.range=0/\bB x.pin x.range=true/\0<=x.pos:=by unfold gP;simp only[Ka,Kc,and_assoc]
theorem qc{d:Dcl}:gL d=true↔cY d=true/\0<=d.pos:=by unfold gL;simp only[Ka,Kc]
theorem lG{s:Str}:fQ s=true↔au s=true∨bO s=true:=by unfold fQ;rw[L6]
theorem xW{l:List Bnd}(h:gZ l=0):∀b∈l,b.v.pre.length<=24:=by
 unfold gZ at h;split at h
 ·exact absurd h (by decide)
 ·split at h
  ·rename_i h2;intro b hb;have:=Kp.1 h2 b hb;unfold fx at this;rw[Ka,Kc,Kc]at this;exact mF this.2
  ·exact absurd h (by decide)
theorem AM{l:List Str}{a:Str}:(l++[a]).Nodup↔l.Nodup/\a∉l:=by
 rw[Mo];constructor
 ·rintro⟨h1,_,h3⟩;exact⟨h1,fun h=>h3 a h a (L2.2 rfl) rfl⟩
 ·rintro⟨h1,h2⟩;refine⟨h1,by simp,?_⟩;intro x hx y hy e;rw[L2.1 hy]at e;rw[e]at hx;exact h2 hx
theorem AN{l:List Str}{k:Nat}(hk:k<l.length):(l.take (k+1)).Nodup↔(l.take k).Nodup/\l.getD k (dfl .str)∉l.take k:=by rw[bQ l k (dfl .str) hk,AM]
theorem ndN{p:Prop}[Decidable p](h:(!decide p)=true):¬p:=by intro e;rw[Xd e]at h;exact absurd h (by decide)
theorem ndP{p:Prop}[Decidable p](h:¬(!decide p)=true):p:=by refine Nf.1 fun e=>h ?_;rw[Xf e];rfl
theorem nbN{b:Bool}(h:(!b)=true):¬b=true:=by intro e;rw[e]at h;exact absurd h (by decide)
theorem nbP{b:Bool}(h:¬(!b)=true):b=true:=by cases b with|true=>rfl|false=>exact absurd rfl h
theorem bF{b:Bool}(h:¬b=true):b=false:=by cases b with|true=>exact absurd rfl h|false=>rfl
end Go.Pd
end
section
namespace Go.Proofs.YtbhedkjcdhgkhaaGreatDoor.Join
open Go.AL Go.AL.Seat Go.Pd Go.ChangeShapes Go.WideShapes Go.RowKit Go.Lib Go.Shelf
set_option maxRecDepth 1000000
theorem Jv:TermAt Tryz.prog 56:=⟨_,_,_,_,_,_,_,_,_,9,53,Tryz.underlying56,by kernel_rfl,⟨rfl,rfl,rfl,rfl,rfl,rfl,rfl,rfl,rfl⟩,⟨by kernel_rfl,by kernel_rfl,by kernel_rfl,by kernel_rfl,by kernel_rfl,by kernel_rfl,by kernel_rfl,by kernel_rfl,by kernel_rfl⟩,
 ⟨by kernel_rfl,by kernel_rfl,by kernel_rfl,by kernel_rfl,by kernel_rfl,by kernel_rfl,by kernel_rfl,by kernel_rfl,by kernel_rfl⟩,⟨by kernel_rfl,by kernel_rfl,by kernel_rfl⟩,CB⟩
theorem sg{P:Program}{t:TypeId}(h:J0 P t=true):kT P t:=by intro fs i f e h1 h2 h3;unfold J0 at h;rw[h1]at h;have:=Kp.1 h f (KA (by rw[Ku];exact h2));simp only[h3]at this;exact Xo this
theorem K1:Tryz.prog.readableRec 26=true:=by kernel_rfl
theorem sh:∀(n:Nat)(s:Trm),szT s<=n->allT (ja 1048576 1048576) s=true->cG s=true/\dt s=true
 |0,s,h,_=>by have:=eo s;omega
 |n+1,s,h,ha=>by
  rw[allT_eq,Ka,allTL_all,Kp]at ha;have hb:=ha.1;unfold ja at hb;rw[Ka,Kc,Kc]at hb;have hp:∀x∈s.parts,cG x=true/\dt x=true:=fun x hx=>by have h1:=eV hx;have h2:=gi s;exact sh n x (by omega) (ha.2 x hx)
  unfold cG dt at hp⊢;rw[allT_eq,allT_eq,Ka,Ka,allTL_all,allTL_all,Kp,Kp];refine⟨⟨Xd (by omega),fun x hx=>(hp x hx).1⟩,?_,fun x hx=>(hp x hx).2⟩;rw[Xd (show s.name.length<=2000000 by omega),Xd (show s.names.length<=2000000 by omega)];rfl
theorem xX{d:Dcl}(h:allT (ja 1048576 1048576) d.term=true/\xM 1048576 d):bT d=true:=by obtain⟨h1,h2⟩:=sh _ _ (Kn _) h.1;obtain⟨a,b,c,e,f,k⟩:=h.2;exact mG.2 ⟨⟨h2,h1⟩,xU.2 ⟨by omega,by omega,by omega,by omega,by omega,by omega⟩⟩
theorem GB:VersAt Tryz.prog 61:=⟨_,_,_,_,Tryz.underlying61,by kernel_rfl,⟨rfl,rfl,rfl,rfl⟩,⟨by kernel_rfl,by kernel_rfl,by kernel_rfl,by kernel_rfl⟩,by kernel_rfl,by kernel_rfl,by kernel_rfl,by kernel_rfl⟩
theorem K2:BndAt Tryz.prog 66:=⟨_,_,Tryz.underlying66,by kernel_rfl,⟨rfl,rfl⟩,⟨by kernel_rfl,by kernel_rfl⟩,by kernel_rfl,GB⟩
theorem K3:ImpAt Tryz.prog 64:=⟨_,_,_,_,66,Tryz.underlying64,by kernel_rfl,⟨rfl,rfl,rfl,rfl⟩,⟨by kernel_rfl,by kernel_rfl,by kernel_rfl,by kernel_rfl⟩,by kernel_rfl,GB,by kernel_rfl,by kernel_rfl,K2⟩
theorem K4:DclAt Tryz.prog 58:=⟨_,_,_,_,_,Tryz.underlying58,by kernel_rfl,⟨rfl,rfl,rfl,rfl,rfl⟩,⟨by kernel_rfl,by kernel_rfl,by kernel_rfl,by kernel_rfl,by kernel_rfl⟩,by kernel_rfl,by kernel_rfl,⟨CB,sg (by kernel_rfl)⟩,⟨Jv,sg (by kernel_rfl)⟩,by kernel_rfl⟩
theorem Jw:ModuAt Tryz.prog 26:=⟨_,_,_,_,_,64,58,9,Tryz.underlying26,by kernel_rfl,⟨rfl,rfl,rfl,rfl,rfl⟩,⟨by kernel_rfl,by kernel_rfl,by kernel_rfl,by kernel_rfl,by kernel_rfl⟩,by kernel_rfl,by kernel_rfl,by kernel_rfl,by kernel_rfl,by kernel_rfl,K3,K4,by kernel_rfl,by kernel_rfl⟩
theorem GC:kT Tryz.prog 26:=sg (by kernel_rfl)
end Go.Proofs.YtbhedkjcdhgkhaaGreatDoor.Join
end
noncomputable section
namespace Go.AL
def evN{α:Type}(n:Nat)(k:Nat->α):α:=match n with|0=>k 0|m+1=>k (m+1)
def evI{α:Type}(n:Int)(k:Int->α):α:=match n with|.ofNat m=>evN m fun m=>k (.ofNat m)|.negSucc m=>evN m fun m=>k (.negSucc m)
def evL{α β:Type}:List β->(List β->α)->α
 |[],k=>k []
 |a::r,k=>evL r fun r=>k (a::r)
theorem bJ{α:Type}(n:Nat)(k:Nat->α):evN n k=k n:=by cases n<;>rfl
theorem AO{α:Type}(n:Int)(k:Int->α):evI n k=k n:=by cases n<;>(unfold evI;exact bJ _ _)
theorem eE{α β:Type}:∀(l:List β)(k:List β->α),evL l k=k l
 |[],_=>rfl
 |a::r,k=>by rw[evL,eE r]
mutual
def evV{α:Type}:AV->(AV->α)->α
 |.int κ n,k=>evI n fun n=>k (.int κ n)
 |.bool true,k=>k (.bool true)
 |.bool false,k=>k (.bool false)
 |.str s,k=>evL s fun s=>k (.str s)
 |.lst τ xs none,k=>evL xs fun xs=>k (.lst τ xs none)
 |.lst τ xs (some i),k=>evL xs fun xs=>k (.lst τ xs (some i))
 |.row τ xs,k=>evL xs fun xs=>k (.row τ xs)
 |.arr i n w,k=>evN n fun n=>k (.arr i n w)
 |.aptr i n w o,k=>evN n fun n=>evN o fun o=>k (.aptr i n w o)
 |.cptr c,k=>evV c fun c=>k (.cptr c)
 |.agg cs,k=>evVs cs fun cs=>k (.agg cs)
 |.tup cs,k=>evVs cs fun cs=>k (.tup cs)
 |.fn f cs,k=>evVs cs fun cs=>k (.fn f cs)
 |.iface t a,k=>evV a fun a=>k (.iface t a)
 |.lstp τ xs i,k=>evL xs fun xs=>k (.lstp τ xs i)
 |.glst s n i,k=>evN s fun s=>evN n fun n=>k (.glst s n i)
 |.gptr i s n w o,k=>evN s fun s=>evN n fun n=>evN w fun w=>evN o fun o=>k (.gptr i s n w o)
 |.undef,k=>k .undef
 |.nils,k=>k .nils
 |.ptr i o,k=>k (.ptr i o)
 |.nilp,k=>k .nilp
 |.st n x,k=>k (.st n x)
 |.map i,k=>k (.map i)
 |.bptr i,k=>k (.bptr i)
 |.nilif,k=>k .nilif
 |.nilm,k=>k .nilm
 |.pt n x,k=>k (.pt n x)
 |.tptr τ n i,k=>k (.tptr τ n i)
def evVs{α:Type}:List AV->(List AV->α)->α
 |[],k=>k []
 |a::r,k=>evV a fun a=>evVs r fun r=>k (a::r)
end
mutual
theorem evV_eq{α:Type}:∀(a:AV)(k:AV->α),evV a k=k a
 |.int κ n,k=>by rw[evV,AO]
 |.bool true,k=>rfl
 |.bool false,k=>rfl
 |.str s,k=>by rw[evV,eE]
 |.lst τ xs none,k=>by rw[evV,eE]
 |.lst τ xs (some i),k=>by rw[evV,eE]
 |.row τ xs,k=>by rw[evV,eE]
 |.arr i n w,k=>by rw[evV,bJ]
 |.aptr i n w o,k=>by rw[evV,bJ,bJ]
 |.cptr c,k=>by rw[evV,evV_eq c]
 |.agg cs,k=>by rw[evV,evVs_eq cs]
 |.tup cs,k=>by rw[evV,evVs_eq cs]
 |.fn f cs,k=>by rw[evV,evVs_eq cs]
 |.iface t a,k=>by rw[evV,evV_eq a]
 |.lstp τ xs i,k=>by rw[evV,eE]
 |.glst _ _ _,k=>by rw[evV,bJ,bJ]
 |.gptr _ _ _ _ _,k=>by rw[evV,bJ,bJ,bJ,bJ]
 |.undef,k=>rfl
 |.nils,k=>rfl
 |.ptr _ _,k=>rfl
 |.nilp,k=>rfl
 |.st _ _,k=>rfl
 |.map _,k=>rfl
 |.bptr _,k=>rfl
 |.nilif,k=>rfl
 |.nilm,k=>rfl
 |.pt _ _,k=>rfl
 |.tptr _ _ _,k=>rfl
theorem evVs_eq{α:Type}:∀(l:List AV)(k:List AV->α),evVs l k=k l
 |[],k=>rfl
 |a::r,k=>by rw[evVs,evV_eq a,evVs_eq r]
end
def evA{α:Type}(a:AV)(k:AV->α):α:=
 match a with
 |.int κ n=>evI n fun n=>k (.int κ n)
 |.bool b=>(match b with|true=>k (.bool true)|false=>k (.bool false))
 |.str s=>evL s fun s=>k (.str s)
 |.lst τ xs o=>evL xs fun xs=>(match o with|none=>k (.lst τ xs none)|some i=>k (.lst τ xs (some i)))
 |.row τ xs=>evL xs fun xs=>k (.row τ xs)
 |.arr i n w=>evN n fun n=>k (.arr i n w)
 |.aptr i n w o=>evN n fun n=>evN o fun o=>k (.aptr i n w o)
 |.ptr i o=>evN o fun o=>k (.ptr i o)
 |.cptr c=>evV c fun c=>k (.cptr c)
 |.agg cs=>evVs cs fun cs=>k (.agg cs)
 |.tup cs=>evVs cs fun cs=>k (.tup cs)
 |.fn f cs=>evVs cs fun cs=>k (.fn f cs)
 |.iface t a=>evV a fun a=>k (.iface t a)
 |.lstp τ xs i=>evL xs fun xs=>k (.lstp τ xs i)
 |.glst s n i=>evN s fun s=>evN n fun n=>k (.glst s n i)
 |.gptr i s n w o=>evN s fun s=>evN n fun n=>evN w fun w=>evN o fun o=>k (.gptr i s n w o)
 |a=>k a
theorem Jx{α:Type}(a:AV)(k:AV->α):evA a k=k a:=by
 unfold evA;split
 ·exact AO _ _
 ·split<;>rfl
 ·exact eE _ _
 ·rw[eE];split<;>rfl
 ·exact eE _ _
 ·exact bJ _ _
 ·rw[bJ,bJ]
 ·exact bJ _ _
 ·exact evV_eq _ _
 ·exact evVs_eq _ _
 ·exact evVs_eq _ _
 ·exact evVs_eq _ _
 ·exact evV_eq _ _
 ·exact eE _ _
 ·rw[bJ,bJ]
 ·rw[bJ,bJ,bJ,bJ]
 ·rfl
mutual
def evW{α:Type}:AV->(AV->α)->α
 |.int κ n,k=>evI n fun n=>k (.int κ n)
 |.bool true,k=>k (.bool true)
 |.bool false,k=>k (.bool false)
 |.lst τ xs none,k=>k (.lst τ xs none)
 |.lst τ xs (some i),k=>k (.lst τ xs (some i))
 |.row τ xs,k=>evL xs fun xs=>k (.row τ xs)
 |.arr i n w,k=>evN n fun n=>k (.arr i n w)
 |.aptr i n w o,k=>evN n fun n=>evN o fun o=>k (.aptr i n w o)
 |.cptr c,k=>evW c fun c=>k (.cptr c)
 |.agg cs,k=>evWs cs fun cs=>k (.agg cs)
 |.tup cs,k=>evWs cs fun cs=>k (.tup cs)
 |.fn f cs,k=>evWs cs fun cs=>k (.fn f cs)
 |.iface t a,k=>evW a fun a=>k (.iface t a)
 |.lstp τ xs i,k=>evL xs fun xs=>k (.lstp τ xs i)
 |.glst s n i,k=>evN s fun s=>evN n fun n=>k (.glst s n i)
 |.gptr i s n w o,k=>evN s fun s=>evN n fun n=>evN w fun w=>evN o fun o=>k (.gptr i s n w o)
 |.str s,k=>k (.str s)
 |.undef,k=>k .undef
 |.nils,k=>k .nils
 |.ptr i o,k=>evN o fun o=>k (.ptr i o)
 |.nilp,k=>k .nilp
 |.st n x,k=>k (.st n x)
 |.map i,k=>k (.map i)
 |.bptr i,k=>k (.bptr i)
 |.nilif,k=>k .nilif
 |.nilm,k=>k .nilm
 |.pt n x,k=>k (.pt n x)
 |.tptr τ n i,k=>k (.tptr τ n i)
def evWs{α:Type}:List AV->(List AV->α)->α
 |[],k=>k []
 |a::r,k=>evW a fun a=>evWs r fun r=>k (a::r)
end
mutual
theorem evW_eq{α:Type}:∀(a:AV)(k:AV->α),evW a k=k a
 |.int κ n,k=>by rw[evW,AO]
 |.bool true,k=>rfl
 |.bool false,k=>rfl
 |.str s,k=>rfl
 |.lst τ xs none,k=>rfl
 |.lst τ xs (some i),k=>rfl
 |.row τ xs,k=>by rw[evW,eE]
 |.arr i n w,k=>by rw[evW,bJ]
 |.aptr i n w o,k=>by rw[evW,bJ,bJ]
 |.cptr c,k=>by rw[evW,evW_eq c]
 |.agg cs,k=>by rw[evW,evWs_eq cs]
 |.tup cs,k=>by rw[evW,evWs_eq cs]
 |.fn f cs,k=>by rw[evW,evWs_eq cs]
 |.iface t a,k=>by rw[evW,evW_eq a]
 |.lstp τ xs i,k=>by rw[evW,eE]
 |.glst _ _ _,k=>by rw[evW,bJ,bJ]
 |.gptr _ _ _ _ _,k=>by rw[evW,bJ,bJ,bJ,bJ]
 |.undef,k=>rfl
 |.nils,k=>rfl
 |.ptr _ o,k=>by rw[evW,bJ]
 |.nilp,k=>rfl
 |.st _ _,k=>rfl
 |.map _,k=>rfl
 |.bptr _,k=>rfl
 |.nilif,k=>rfl
 |.nilm,k=>rfl
 |.pt _ _,k=>rfl
 |.tptr _ _ _,k=>rfl
theorem evWs_eq{α:Type}:∀(l:List AV)(k:List AV->α),evWs l k=k l
 |[],k=>rfl
 |a::r,k=>by rw[evWs,evW_eq a,evWs_eq r]
end
def Iq:Op->Bool
 |.load _ _=>true
 |.move _=>true
 |_=>false
def evQ{α:Type}(o:Oper)(a:AV)(k:AV->α):α:=match Iq o.op with|true=>evW a k|false=>evA a k
theorem Jy{α:Type}(o:Oper)(a:AV)(k:AV->α):evQ o a k=k a:=by
 unfold evQ;split
 ·exact evW_eq _ _
 ·exact Jx _ _
def evO{α:Type}:SObj->(SObj->α)->α
 |.box c,k=>evW c fun c=>k (.box c)
 |.tail τ n,k=>evN n fun n=>k (.tail τ n)
 |.map κ τ m,k=>evL m fun m=>k (.map κ τ m)
 |.bld t u l,k=>evL l fun l=>k (.bld t u l)
 |.tailp τ n x,k=>evN n fun n=>k (.tailp τ n x)
 |.grow τ s xs,k=>evN s fun s=>evL xs fun xs=>k (.grow τ s xs)
theorem Jz{α:Type}(o:SObj)(k:SObj->α):evO o k=k o:=by
 cases o with|box c=>exact evW_eq _ _|tail τ n=>unfold evO;exact bJ _ _|map κ τ m=>exact eE _ _|bld t u l=>exact eE _ _|tailp τ n x=>unfold evO;exact bJ _ _|grow τ s xs=>show evN s (fun s=>evL xs fun xs=>k (.grow τ s xs))=_;rw[bJ,eE]
def evB{α:Type}:List (Nat×SObj)->(List (Nat×SObj)->α)->α
 |[],k=>k []
 |(i,o)::r,k=>evO o fun o=>evB r fun r=>k ((i,o)::r)
theorem vX{α:Type}:∀(l:List (Nat×SObj))(k:List (Nat×SObj)->α),evB l k=k l
 |[],k=>rfl
 |(i,o)::r,k=>by rw[evB,Jz,vX r]
def evS{α:Type}(s:St)(k:St->α):α:=evL s.t fun t=>evB s.b fun b=>k ⟨t,b⟩
theorem GD{α:Type}(s:St)(k:St->α):evS s k=k s:=by rw[evS,eE,vX]
theorem DT{ob:Option DP}{q:Prop}(h:okO ob=true)(hq:q):qx ob q:=by
 cases ob with|none=>exact hq|some d=>exact⟨d.h h,hq⟩
def CG{α:Sort _}(ops:List Oper)(o:Oper)(T:Nat->AV)(bad:α)(on off:Unit->α):α:=
 match o.guard with
 |none=>on ()
 |some (j,want)=>
  match(nth ops j).bind (·.dst)with
  |none=>bad
  |some d=>
   match T d with
   |.bool true=>if want then on ()else off ()
   |.bool false=>if want then off ()else on ()
   |.tup []=>off ()
   |_=>bad
theorem AP{α:Type}{ops:List Oper}{o:Oper}{T:Nat->AV}{y:α}{on off:Unit->Option α}{on' off':Unit->Prop}(hon:on ()=some y->on' ())(hoff:off ()=some y->off' ())
 (h:CG ops o T none on off=some y):CG ops o T False on' off':=by
 unfold CG at h⊢
 cases hg:o.guard with
 |none=>simp only[hg]at h⊢;exact hon h
 |some p=>
  obtain⟨j,want⟩:=p;simp only[hg]at h⊢
  cases hd:(nth ops j).bind (·.dst)with
  |none=>simp only[hd]at h;cases h
  |some d=>
   simp only[hd]at h⊢;generalize T d=v at h⊢;split at h
   ·split at h
    ·rename_i hw;exact(Kf hw).symm ▸ hon h
    ·rename_i hw;exact(Kb hw).symm ▸ hoff h
   ·split at h
    ·rename_i hw;exact(Kf hw).symm ▸ hoff h
    ·rename_i hw;exact(Kb hw).symm ▸ hon h
   ·exact hoff h
   ·cases h
def gdB(ops:List Oper)(g:Bool)(i:Nat):Bool:=match g with|true=>fF ops i|false=>false
def GF(ops:List Oper):Bool:=ops.any fun o=>o.guard.isSome
theorem JA(ops:List Oper)(i:Nat):gdB ops (GF ops) i=fF ops i:=by
 unfold gdB
 cases h:GF ops with
 |true=>rfl
 |false=>
  show false=fF ops i;symm;unfold GF at h;rw[List.any_eq_false]at h;unfold fF;rw[List.any_eq_false];intro o ho;have:=h o ho
  cases hg:o.guard with|none=>simp|some x=>rw[hg]at this;exact absurd rfl this
def xY(C:Cfg)(ops:List Oper)(g:Bool):List Oper->Nat->St->List bA->Option (St×List bA)
 |[],_,s,fs=>some (s,fs.reverse)
 |o::r,i,s,fs=>
  CG ops o (aS s.t) none
   (fun _=>
    match ax C o (aS s.t) (al s.b)with
    |none=>none
    |some e=>
     match okO e.ob,bX C o (aS s.t) (al s.b)with
     |true,none=>
      (match gdB ops g i,e.val with
      |true,.bool b=>(match b with
       |true=>xY C ops g r (i+1) ⟨qw s.t o.dst (.bool true),cd s.b e.upd⟩ ((aG C o (aS s.t) (al s.b),e.upd.map (·.1))::fs)
       |false=>xY C ops g r (i+1) ⟨qw s.t o.dst (.bool false),cd s.b e.upd⟩ ((aG C o (aS s.t) (al s.b),e.upd.map (·.1))::fs))
      |true,_=>none
      |false,v=>evQ o v fun v=>xY C ops g r (i+1) ⟨qw s.t o.dst v,cd s.b e.upd⟩ ((aG C o (aS s.t) (al s.b),e.upd.map (·.1))::fs))
     |_,_=>none)
   (fun _=>xY C ops g r (i+1) ⟨qw s.t o.dst (.tup []),s.b⟩ (([],[])::fs))
theorem CH{C:Cfg}{ops:List Oper}{draw:Bool}{kp:AV->St->Prop}{k:St->List bA->Prop}{s':St}{fs':List bA}(hk:k s' fs') :
  ∀(l:List Oper)(i:Nat)(s:St)(fs:List bA),xY C ops (GF ops) l i s fs=some (s',fs')->bK C ops draw kp l i s fs k
 |[],_,s,fs,h=>by simp only[xY,Xs,ME]at h;obtain⟨rfl,rfl⟩:=h;exact hk
 |o::r,i,s,fs,h=>by
  have ih:=CH (C:=C) (ops:=ops) (draw:=draw) (kp:=kp) hk r;rw[xY,JA]at h
  refine AP (on':=fun _=>
   match ax C o (aS s.t) (al s.b)with
   |none=>False
   |some e=>
    qx e.ob
    (match bX C o (aS s.t) (al s.b)with
    |none=>
     (match fF ops i,e.val with
     |true,.bool b=>
      sp b (bK C ops draw kp r (i+1) (s.put o.dst {e with val:=.bool true}) ((aG C o (aS s.t) (al s.b),e.upd.map (·.1))::fs) k)
       (bK C ops draw kp r (i+1) (s.put o.dst {e with val:=.bool false}) ((aG C o (aS s.t) (al s.b),e.upd.map (·.1))::fs) k)
     |true,_=>False
     |false,_=>bK C ops draw kp r (i+1) (s.put o.dst e) ((aG C o (aS s.t) (al s.b),e.upd.map (·.1))::fs) k)
    |some (b,pv,u)=>
     (match fF ops i with
     |true=>False
     |false=>sp b (vg C ops draw kp r i s fs (aG C o (aS s.t) (al s.b),e.upd.map (·.1)) pv u) (bK C ops draw kp r (i+1) (s.put o.dst e) ((aG C o (aS s.t) (al s.b),e.upd.map (·.1))::fs) k))))
   (off':=fun _=>bK C ops draw kp r (i+1) ⟨qw s.t o.dst (.tup []),s.b⟩ (([],[])::fs) k) ?_ (fun h=>ih _ _ _ h) h
  intro h;split at h
  ·cases h
  ·rename_i e he;split at h
   ·rename_i ho hp;refine DT ho ?_
    try simp only[hp]
    split at h
    ·rename_i b hg hv
     try simp only[hg,hv]
     split at h
     ·exact ih _ _ _ h
     ·exact ih _ _ _ h
    ·cases h
    ·rename_i v hg;simp only[Jy]at h
     try simp only[hg]
     exact ih _ _ _ h
   ·cases h
def Ir(ops:List Oper)(i j:Nat):Bool:=((eA ops).getD j 0).testBit i
def lZ:Nat->List bA->List (Nat×bA)
 |_,[]=>[]
 |i,f::r=>match f with|([],[])=>lZ (i+1) r|f=>(i,f)::lZ (i+1) r
def Is(ops:List Oper)(i j:Nat):Bool:=match nth ops i,nth ops j with|some x,some y=>nJ x y|_,_=>false
def oD(ops:List Oper):List (Nat×bA)->Bool
 |[]=>true
 | x::r=>r.all (fun p=>Ir ops x.1 p.1||(dq x.2 p.2||Is ops x.1 p.1))&&oD ops r
def CI(ops:List Oper):Bool:=
 ((List.range ops.length).all fun j=>(List.range j).all fun i=>Ir ops i j||(match nth ops i,nth ops j with | some x,some y=>fG ops x y | _,_=>false))&&
 (ops.zipIdx.all fun(o,j)=>o.after.all fun e=>!Region.binds .any e||Nat.blt e.on j)
def AQ(ops:List Oper)(fs:List bA):Bool:=CI ops&&fB fs ops.length&&oD ops (lZ 0 fs)
theorem si{α:Type}:∀{l:List α} {i:Nat},i<l.length->∃x,nth l i=some x
 |a::_,0,_=>⟨a,rfl⟩
 |_::r,i+1,h=>si (l:=r) (Nat.lt_of_succ_lt_succ h)
theorem uv:∀{fs:List bA} {i0 k:Nat} {f:bA},nth fs k=some f->f≠([],[])->(i0+k,f)∈lZ i0 fs
 |g::r,i0,0,f,h,hf=>by
  cases h;unfold lZ;split
  ·exact absurd rfl hf
  ·exact KK ..
 |g::r,i0,k+1,f,h,hf=>by
  have ih:=uv (fs:=r) (i0:=i0+1) (k:=k) h hf;rw[show i0+(k+1)=i0+1+k by omega];unfold lZ;split
  ·exact ih
  ·exact Kx _ ih
theorem po{ops:List Oper}:∀{fs:List bA} {i0 a b:Nat} {f g:bA},oD ops (lZ i0 fs)=true->a<b->nth fs a=some f->nth fs b=some g->f≠([],[])->g≠([],[])->(Ir ops (i0+a) (i0+b)||(dq f g||Is ops (i0+a) (i0+b)))=true
 |x::r,i0,0,b+1,f,g,h,_,hf,hg,h1,h2=>by
  cases hf;have hm:=uv (fs:=r) (i0:=i0+1) (k:=b) hg h2;unfold lZ at h;split at h
  ·exact absurd rfl h1
  ·unfold oD at h;rw[Ka,Kp]at h;have:=h.1 _ hm
   rwa [show i0+1+b=i0+(b+1) by omega]at this
 |x::r,i0,a+1,b+1,f,g,h,hab,hf,hg,h1,h2=>by
  have hr:oD ops (lZ (i0+1) r)=true:=by
   unfold lZ at h;split at h
   ·exact h
   ·unfold oD at h;rw[Ka]at h;exact h.2
  have:=po (fs:=r) (i0:=i0+1) (a:=a) (b:=b) hr (by omega) hf hg h1 h2
  rwa [show i0+1+a=i0+(a+1) by omega,show i0+1+b=i0+(b+1) by omega]at this
theorem AR(g:bA):dq ([],[]) g=true:=by unfold dq qz;simp
theorem xZ(f:bA):dq f ([],[])=true:=by unfold dq qz;simp
theorem nr{α:Type}:∀{l:List α} {n:Nat},fB l n=true->l.length=n
 |[],0,_=>rfl
 |_::r,n+1,h=>by rw[Kq,nr (l:=r) h]
theorem DU{ops:List Oper}{fs:List bA}(h:AQ ops fs=true):eG ops fs=true:=by
 unfold AQ CI at h;simp only[Ka,Kp,LG]at h;obtain⟨⟨⟨h1,h2⟩,h3⟩,h4⟩:=h;have hl:=nr h3;unfold eG;rw[Ka];refine⟨?_,by rw[Kp];intro p hp;have:=h2 p hp;exact(by obtain⟨o,j⟩:=p;simpa using this)⟩;rw[Kp];intro j hj;rw[Kp];intro i hi;rw[LG]at hj hi;have k:=h1 j hj i hi;rw[L6]at k⊢;rcases k with k|k
 ·exact .inl k
 obtain⟨x,hx⟩:=si (l:=ops) (i:=i) (by omega);obtain⟨y,hy⟩:=si (l:=ops) (i:=j) hj;obtain⟨f,hf⟩:=si (l:=fs) (i:=i) (by omega);obtain⟨g,hg⟩:=si (l:=fs) (i:=j) (by omega);rw[hx,hy]at k;rw[hx,hy,hf,hg]
 have q:Ir ops i j=true∨(dq f g||Is ops i j)=true:=by
  by_cases c1:f=([],[])
  ·rw[c1];exact .inr (by rw[AR g];rfl)
  ·by_cases c2:g=([],[])
   ·rw[c2];exact .inr (by rw[xZ f];rfl)
   ·have:=po h4 hi hf hg c1 c2;rw[Lk,Lk,L6]at this;exact this
 rcases q with q|q
 ·exact .inl q
 ·unfold Is at q;rw[hx,hy]at q;exact .inr (by rw[Ka];exact⟨k,q⟩)
end Go.AL
end
noncomputable section
namespace Go.AL
variable [Tabs]
def GG:List (Nat×SObj)->Nat->Nat
 |[],m=>m *1000+998
 |(i,_)::r,m=>GG r (match Nat.ble m (i/1000)with|true=>i/1000+1|false=>m)
def vY:List Nat->St->Option St
 |[],s=>some s
 |i::r,s=>(match FA i (GG s.b 100) s with|some s=>vY r s|none=>none)
theorem nt{F:Fr}{a:Act}:∀(l:List Nat) {s s':St} {Ω:Om},Holds F s.abs a Ω->vY l s=some s'->∃Ω',Ω'.w=Ω.w/\Holds F s'.abs a Ω'
 |[],s,s',Ω,h,hr=>by cases hr;exact⟨Ω,rfl,h⟩
 |i::r,s,s',Ω,h,hr=>by
  unfold vY at hr;split at hr
  ·rename_i s1 h1;obtain⟨Ω1,e1,g1⟩:=mr h h1;obtain⟨Ω2,e2,g2⟩:=nt r g1 hr;exact⟨Ω2,e2.trans e1,g2⟩
  ·cases hr
def AT(ops:List Oper)(s:St):Option St:=
 match enter ops s with
 |some s'=>some s'
 |none=>(match vY ((s.b.map (·.1)).filter fun i=>Ci (qC ops) (vh ops) i&&!bn i) s with|some s'=>enter ops s'|none=>none)
theorem vZ{F:Fr}{ops:List Oper}{s s':St}{a:Act}{Ω:Om}(h:Holds F s.abs a Ω)(he:AT ops s=some s'):∃Ω',Ω'.w=Ω.w/\Holds F s'.abs a Ω':=by
 unfold AT at he;split at he
 ·rename_i s1 h1;cases he;exact kE h h1
 ·split at he
  ·rename_i s1 h1;obtain⟨Ω1,e1,g1⟩:=nt _ h h1;obtain⟨Ω2,e2,g2⟩:=kE g1 he;exact⟨Ω2,e2.trans e1,g2⟩
  ·cases he
end Go.AL
end
noncomputable section
namespace Go.AL
def GH(k:Nat)(s:St):Option St:=
 match al s.b k with
 |some (.tailp τ n x)=>
  if((s.t.flatMap (fun y=>lensV k y.2)++s.b.flatMap (fun y=>IV k y.2)).all fun m=>Nat.beq m n)=true then
   some ⟨s.t.map fun y=>(y.1,finV k τ x y.2),(pE s.b k (.tail τ (n+1))).map fun y=>(y.1,D2 k τ x y.2)⟩else none
 |_=>some s
def CJ:List Nat->St->Option St
 |[],s=>some s
 |k::r,s=>(match GH k s with|some s=>CJ r s|none=>none)
theorem uw{n:Nat}{q:Prop}(hq:q):∀l:List Nat,(l.all fun m=>Nat.beq m n)=true->vj n l q
 |[],_=>hq
 |m::r,h=>by rw[KR,Ka]at h;exact⟨Kz h.1,uw hq r h.2⟩
theorem GI{k:Nat}{s s':St}{Q:St->Prop}(h:GH k s=some s')(hq:Q s'):zL k s Q:=by
 unfold GH at h;unfold zL;generalize hb:al s.b k=b at h⊢
 cases b with
 |none=>cases h;exact hq
 |some o=>
  cases o with
  |tailp τ n x=>
   dsimp only at h⊢;split at h
   ·rename_i ha;cases h;exact uw hq _ ha
   ·cases h
  |_=>cases h;exact hq
theorem y9{Q:St->Prop}{s':St}(hq:Q s'):∀(l:List Nat)(s:St),CJ l s=some s'->zM l s Q
 |[],s,h=>by cases h;exact hq
 |k::r,s,h=>by
  unfold CJ at h;split at h
  ·rename_i s1 h1;exact GI h1 (y9 hq r s1 h)
  ·cases h
def trimM(keep:Nat)(s:St):St:=⟨s.t.filter fun x=>Nat.beq (Nat.land (Nat.shiftRight keep x.1) 1) 1,s.b⟩
def JB(C:Cfg)(keep:Nat)(ops:Array Oper)(draw:Bool)(s:St):Option St:=
 match xY C ops.toList (GF ops.toList) ops.toList 0 s []with
 |none=>none
 |some (s,fs)=>
  match CJ (pS s.b) s with
  |none=>none
  |some s=>
   match draw with
   |false=>evS (trimM keep s) some
   |true=>(match AQ ops.toList fs with|true=>evS (trimM keep s) some|false=>none)
theorem Holds.trimM[Tabs]{F:Fr}{s:St}{a:Act}{Ω:Om}(h:Holds F s.abs a Ω)(keep:Nat):Holds F (trimM keep s).abs a Ω:=by
 refine⟨fun i=>?_,h.size,h.defers,h.slots,h.dom,h.inj,h.pubok,h.keep,h.frame⟩;have e:(AL.trimM keep s).abs.T i=if Nat.beq (Nat.land (Nat.shiftRight keep i) 1) 1=true then aS s.t i else .undef:=iN s.t (fun i=>Nat.beq (Nat.land (Nat.shiftRight keep i) 1) 1) i
 rw[e];split
 ·exact h.tmps i
 ·exact .undef _
theorem AU[Tabs]{P:Program}{C:Cfg}{F:Fr}(hm:P.follows .mixedOrders=true)(hT:aX P C.tbl)(hS:bM P C.spec){keep:Nat}{id:Nat}{ops:Array Oper}{draw:Bool}{s s':St}{a:Act}{Ω:Om}
 (hdst:∀(o:Oper),o∈ops.toList->∀d,o.dst=some d->d<F.n)(h:JB C keep ops draw s=some s')(hh:Holds F s.abs a Ω):(Code.region id ops draw).wp P (QL F fun y t=>y=.normal/\t=s') a Ω.w:=by
 have key:bK C ops.toList draw (fun _ _=>False) ops.toList 0 s [] fun s2 fs=>Jb s2 fun s3=>s'=trimM keep s3/\(draw=true->eG ops.toList fs=true):=by
  unfold JB at h;split at h
  ·cases h
  ·rename_i s1 fs h1;refine CH ?_ _ _ _ _ h1;split at h
   ·cases h
   ·rename_i s2 h2;refine y9 ?_ _ _ h2;split at h
    ·rw[GD]at h;cases h;exact⟨rfl,fun q=>by cases q⟩
    ·split at h
     ·rename_i hi;rw[GD]at h;cases h;exact⟨rfl,fun _=>DU hi⟩
     ·cases h
 refine nc hm hT hS hdst key (fun hdr s2 fs hk=>let ⟨s3,h3⟩:=oe _ hk;h3.2 hdr) hh (fun s2 fs a' Ω' hk h'=>
   let ⟨s3,Ω3,g1,g2,g3⟩:=rC h' hk
   ⟨.normal,trimM keep s3,Ω3,rfl,g1,g2.trimM keep,rfl,g3.1.symm⟩)
  (fun pv s2 a' Ω' v hk _ _=>hk.elim)
def CK(f:St->Option (SX×St)):Nat->St->Option (SX×St)
 |0,_=>none
 |n+1,s=>
  match f s with
  |some (.normal,s')=>CK f n s'
  |r=>r
def js(C:Cfg)(keep:Nat)(pubs:List (Nat×List Nat))(N:Nat):Code->St->Option (SX×St)
 |.skip,s=>some (.normal,s)
 |.seq a b,s=>
  (match js C keep pubs N a s with
  |some (.normal,s')=>js C keep pubs N b s'
  |r=>r)
 |.cond c a b,s=>
  (match opd (aS s.t) c with
  |.bool true=>js C keep pubs N a s
  |.bool false=>js C keep pubs N b s
  |_=>none)
 |.block id c,s=>
  (match js C keep pubs N c s with
  |some (.exit j,s')=>if j ==id then some (.normal,s')else some (.exit j,s')
  |r=>r)
 |.exit id,s=>some (.exit id,s)
 |.scope c,s=>js C keep pubs N c s
 |.label _,s=>some (.normal,s)
 |.ret,s=>some (.ret,s)
 |.region id ops draw,s=>
  (match nL (qD pubs id) s with
  |none=>none
  |some s=>
   match AT ops.toList s with
   |none=>none
   |some s=>
    match JB C keep ops draw s with
    |some s=>some (.normal,s)
    |none=>none)
 |.loop c,s=>CK (js C keep pubs N c) N s
 |_,_=>none
variable [Tabs]
variable {P:Program} {C:Cfg} {F:Fr}
theorem AW(hm:P.follows .mixedOrders=true)(hT:aX P C.tbl)(hS:bM P C.spec)(keep:Nat)(pubs:List (Nat×List Nat))(N:Nat) :
  ∀(c:Code)(s:St)(x:SX)(s':St)(a:Act)(Ω:Om),js C keep pubs N c s=some (x,s')->bD F.n c=true->Holds F s.abs a Ω->c.wp P (QL F fun y t=>y=x/\t=s') a Ω.w:=by
 intro c
 induction c with
 |skip=>intro s x s' a Ω h _ hh;cases h;exact wp_skip ⟨.normal,s,Ω,rfl,rfl,hh,rfl,rfl⟩
 |region id ops draw=>
  intro s x s' a Ω h hd hh;unfold js at h;split at h
  ·cases h
  ·rename_i s0 h0;obtain⟨Ω0,e0,g0⟩:=jK _ hh h0;split at h
   ·cases h
   ·rename_i s1 h1;obtain⟨Ω1,e1,g1⟩:=vZ g0 h1;have hdst:∀(o:Oper),o∈ops.toList->∀d,o.dst=some d->d<F.n:=by intro o ho d hod;simp only[bD,Kp]at hd;have:=hd o ho;rw[hod]at this;simpa using this
    split at h
    ·rename_i s2 h2;cases h;rw[<-e0,<-e1];exact AU hm hT hS hdst h2 g1
    ·cases h
 |seq x y ihx ihy=>
  intro s z s' a Ω h hd hh;simp only[bD,Ka]at hd;unfold js at h
  cases h1:js C keep pubs N x s with
  |none=>rw[h1]at h;cases h
  |some r=>
   obtain⟨e1,s1⟩:=r;rw[h1]at h;refine NR (Mp (ihx s e1 s1 a Ω h1 hd.1 hh) ?_);intro e a' w' hq;obtain⟨e2,s2,Ω',g1,g2,g3,g4,g5⟩:=hq;subst g2 g4 g5
   cases e2 with
   |normal=>cases g1;exact ihy _ z s' a' Ω' h hd.2 g3
   |exit id=>cases g1;cases h;exact⟨.exit id,_,Ω',rfl,rfl,g3,rfl,rfl⟩
   |ret=>cases g1;cases h;exact⟨.ret,_,Ω',rfl,rfl,g3,rfl,rfl⟩
   |pan pv=>obtain⟨v,rfl,hv⟩:=g1;cases h;exact⟨.pan pv,_,Ω',⟨v,rfl,hv⟩,rfl,g3,rfl,rfl⟩
 |cond c x y ihx ihy=>
  intro s z s' a Ω h hd hh;simp only[bD,Ka]at hd;unfold js at h;have hv:=b5 hh c;split at h
  ·rename_i hb;have hb':opd s.abs.T c=.bool true:=hb;rw[hb']at hv;exact wp_cond hv.bool_inv (ihx _ z s' a Ω h hd.1 hh)
  ·rename_i hb;have hb':opd s.abs.T c=.bool false:=hb;rw[hb']at hv;exact wp_cond hv.bool_inv (ihy _ z s' a Ω h hd.2 hh)
  ·cases h
 |block id c ih=>
  intro s z s' a Ω h hd hh;simp only[bD]at hd;unfold js at h
  cases h1:js C keep pubs N c s with
  |none=>rw[h1]at h;cases h
  |some r=>
   obtain⟨e1,s1⟩:=r;rw[h1]at h;refine wp_block (Mp (ih s e1 s1 a Ω h1 hd hh) ?_);intro e a' w' hq;obtain⟨e2,s2,Ω',g1,g2,g3,g4,g5⟩:=hq;subst g2 g4 g5
   cases e2 with
   |normal=>cases g1;cases h;exact⟨.normal,_,Ω',rfl,rfl,g3,rfl,rfl⟩
   |ret=>cases g1;cases h;exact⟨.ret,_,Ω',rfl,rfl,g3,rfl,rfl⟩
   |pan pv=>obtain⟨v,rfl,hv⟩:=g1;cases h;exact⟨.pan pv,_,Ω',⟨v,rfl,hv⟩,rfl,g3,rfl,rfl⟩
   |exit j=>
    cases g1;simp only[Ai,Exit.inBlock];by_cases hj:j=id
    ·subst hj;simp only[MP,Lf]at h;cases h;simp only[Lf];exact⟨.normal,_,Ω',rfl,rfl,g3,rfl,rfl⟩
    ·simp only[La,hj,KP]at h;cases h;rw[Kb hj];exact⟨.exit j,_,Ω',rfl,rfl,g3,rfl,rfl⟩
 |loop c ih=>
  intro s z s' a Ω h hd hh;simp only[bD]at hd;unfold js at h;refine wp_loop_rounds N ?_
  have key:∀(n:Nat)(s:St)(a:Act)(Ω:Om),CK (js C keep pubs N c) n s=some (z,s')->Holds F s.abs a Ω->Code.rounds P c (QL F fun y t=>y=z/\t=s') n a Ω.w:=by
   intro n
   induction n with
   |zero=>intro s a Ω h _;cases h
   |succ n ihn=>
    intro s a Ω h hh;rw[rounds_succ];unfold CK at h
    cases h1:js C keep pubs N c s with
    |none=>rw[h1]at h;cases h
    |some r=>
     obtain⟨e1,s1⟩:=r;rw[h1]at h;refine Mp (ih s e1 s1 a Ω h1 hd hh) ?_;intro e a' w' hq;obtain⟨e2,s2,Ω',g1,g2,g3,g4,g5⟩:=hq;subst g2 g4 g5
     cases e2 with
     |normal=>cases g1;exact ihn _ a' Ω' h g3
     |exit id=>cases g1;cases h;exact⟨.exit id,_,Ω',rfl,rfl,g3,rfl,rfl⟩
     |ret=>cases g1;cases h;exact⟨.ret,_,Ω',rfl,rfl,g3,rfl,rfl⟩
     |pan pv=>obtain⟨v,rfl,hv⟩:=g1;cases h;exact⟨.pan pv,_,Ω',⟨v,rfl,hv⟩,rfl,g3,rfl,rfl⟩
  exact key N s a Ω h hh
 |exit id=>intro s x s' a Ω h _ hh;cases h;exact wp_exit ⟨.exit id,s,Ω,rfl,rfl,hh,rfl,rfl⟩
 |ret=>intro s x s' a Ω h _ hh;cases h;exact wp_ret ⟨.ret,s,Ω,rfl,rfl,hh,rfl,rfl⟩
 |rangeFunc g ps x y _ _=>intro s z s' a Ω h;cases h
 |scope c ih=>
  intro s z s' a Ω h hd hh;simp only[bD]at hd;unfold js at h;refine wp_scope_straight (Mp (ih s z s' a Ω h hd hh) ?_);intro e a' w' hq;obtain⟨e2,s2,Ω',h1,h2,h3,h4⟩:=hq
  cases e2 with
  |normal=>cases h1;exact⟨.normal,_,Ω',rfl,h2,h3,h4⟩
  |exit id=>cases h1;exact⟨.exit id,_,Ω',rfl,h2,h3,h4⟩
  |ret=>cases h1;exact⟨.ret,_,Ω',rfl,h2,h3,h4⟩
  |pan pv=>obtain⟨v,rfl,hv⟩:=h1;exact⟨.pan pv,_,Ω',⟨v,rfl,hv⟩,h2,h3,h4⟩
 |label l=>intro s x s' a Ω h _ hh;cases h;exact wp_label ⟨.normal,s,Ω,rfl,rfl,hh,rfl,rfl⟩
 |goto l=>intro s z s' a Ω h;cases h
 |refuse why=>intro s z s' a Ω h;cases h
end Go.AL
end
noncomputable section
namespace Go.AL
variable [Tabs]
def JC:AV->Bool
 |.ptr k 0=>bn k
 |_=>false
def ptrIn(ks:List Nat):AV->Bool
 |.ptr k _=>ks.contains k
 |_=>false
def It(ks:List Nat)(t:List (Nat×AV)):List (Nat×AV):=t.map fun x=>(x.1,if ptrIn ks x.2 then x.2 else .undef)
structure RC where
 r0:Code
 rest:Code
 crest:Code
 t5:Nat
 caps:List Operand
 t6:Nat
 t3:Nat
def JD(g:Nat)(c cc:Code):Option RC:=
 match c,cc with
 |.seq r0 (.seq (.region _ o1 false) rest),.seq (.region _ o2 false) crest=>
  match o1.toList,o2.toList with
  |[⟨some t5,.makeFunc (.func g') fst caps,_,_,_,none⟩,⟨none,.defer ⟨.value (.tmp t5'),asx,_⟩,_,_,_,none⟩],
   [⟨some t6,.call ⟨.builtin .recover,as2,_⟩,_,_,_,none⟩,⟨some t3,.assign (.tmp t6'),_,_,_,none⟩]=>
   if Nat.beq g' g&&Nat.beq t5' t5&&Nat.beq t6' t6&&fst.isEmpty&&asx.isEmpty&&as2.isEmpty then some ⟨r0,rest,crest,t5,caps.toList,t6,t3⟩else none
  |_,_=>none
 |_,_=>none
def GJ(C:Cfg)(rs:List ResultVar)(L:List dj)(s1:St)(S1:List (Nat×SObj))(S:List (Nat×SObj))(A:Ans)(t2:List (Nat×AV))(s3:St):Prop:=
 match ba (aK s3.b)&&(aK S1).all (fun k=>(aK s3.b).contains k)with
 |true=>
  match jZ C.tbl ⟨It (aK S1) t2,s3.b⟩ rs with
  |some l=>
   (match jY (al s1.b) L 998 (gT S1 s3.b),mapVs (oR L 998) (gS L 998) (gS L 998) l with
   |some u',some l'=>eH ⟨[],cd s1.b u'⟩ fun s4=>tP (some l') s4 A.val (cd S A.upd)
   |_,_=>False)
  |none=>False
 |false=>False
def yb(C:Cfg)(annC:An)(clo:Func)(R:RC)(caps:List AV)(v:AV)(s2:St)(fin:St->Prop):Prop:=
 iI (List.range clo.ntmps) fun keep=>eH ⟨fV (da 0 caps) R.t3 v,s2.b⟩ fun s=>swp C keep annC R.crest s fun
  |.exit _,_=>False
  |.pan _,_=>False
  |_,s3=>fin s3
def fwpR(C:Cfg)(ann annC:An)(fn:Func)(g:Nat)(clo:Func)(args:List AV)(S:List (Nat×SObj))(A:Ans):Prop:=
 match fn.body,clo.body,A.pan with
 |some c,some cc,none=>
  match JD g c cc with
  |none=>False
  |some R=>
   match bD fn.ntmps c&&bD clo.ntmps cc&&Nat.blt R.t5 fn.ntmps&&lJ args fn.ntmps&&(aK S).all bn&&clo.results.isEmpty&&lJ R.caps clo.ntmps&&lJ R.caps R.t6 with
   |false=>False
   |true=>iI ((List.range fn.ntmps)) fun keep=>eH ⟨da 0 args,S⟩ fun i=>swp C keep ann R.r0 i fun
    |.normal,s1=>
     (match(aK s1.b).map (fun i=>(i,(none:Option (Nat×Nat))))with
     |L=>
      (match ba (L.map (·.1))&&Nat.ble L.length 100,mapVs (toP L) (toI L) (toI L) ((List.range fn.ntmps).map (aS s1.t)),mapVs (toP L) (toI L) (toI L) (R.caps.map (opd (aS s1.t))),mP (al s1.b) L L 900 with
      |true,some as1,some caps,some S1=>
       (match caps.all JC with
       |true=>eH ⟨fV (da 0 as1) R.t5 .undef,S1⟩ fun i=>swp C keep ann R.rest i fun
        |.exit _,_=>False
        |.pan v,s2=>yb C annC clo R caps v s2 (GJ C fn.results.toList L s1 S1 S A s2.t)
        |_,s2=>yb C annC clo R caps .nilif s2 (GJ C fn.results.toList L s1 S1 S A s2.t)
       |false=>False)
      |_,_,_,_=>False))
    |_,_=>False
 |_,_,_=>False
theorem oE:∀(u S:List (Nat×SObj))(i:Nat),ba (u.map (·.1))=true->al (cd S u) i=(al u i).or (al S i)
 |[],S,i,_=>by simp[cd,aR,aJ]
 |(j,o)::r,S,i,h=>by
  simp only[KN,ba,Ka,Ko]at h;simp only[cd];rw[oE r _ i h.2,ie];simp only[aR,aJ];by_cases e:j=i
  ·subst e
   have:al r j=none:=by
    cases hb:al r j with|none=>rfl|some o'=>have:=cr r j o' hb;have h1:=h.1;simp only[L5,KD,KM,not_exists,not_and]at h1;exact absurd rfl (h1 _ this)
   simp[this]
  ·simp[e]
section
variable {P:Program} {C:Cfg}
theorem V.pinned{e0 e:Nat->Option CObj}{w0 w:World}{p0 p:Nat->Nat->Prop}(hk:∀id c,e0 id=some c->∃c',e id=some c'/\CLe c c'){a:AV}{v:Value}(ha:JC a=true)(h:V ⟨e0,w0,p0⟩ a v):V ⟨e,w,p⟩ a v:=by
 cases h with
 |ptr i o b q len he=>obtain⟨c',h1,h2⟩:=hk i _ he;have:=h2.box;subst this;exact .ptr i o b q len h1
 |_=>simp[JC]at ha
theorem Holds.retmp'{F:Fr}{s:AS}{a a':Act}{Ω:Om}(h:Holds F s a Ω){n:Nat}{ds:List Deferred}{T:Nat->AV}(hT:∀i,V Ω (T i) (a'.tmps.getD i undef))(hs:a'.tmps.size=n)(hd:a'.defers=ds) :
  Holds ⟨F.w0,F.pub0,n,F.e0,F.dom0,ds,F.tab0⟩ ⟨T,s.B⟩ a' Ω:=
 ⟨hT,hs,hd,h.slots,h.dom,h.inj,h.pubok,h.keep,⟨h.frame.os,h.frame.tape,h.frame.output,h.frame.size,h.frame.block,h.frame.cell,h.frame.kind,h.frame.pub,h.frame.old,h.frame.pcell⟩⟩
inductive Rcv:FrameMode->AV->Om->Value->FrameMode->Prop
 |ret (Ω:Om):Rcv .returning .nilif Ω .nilIface .returning
 |pan (Ω:Om) (a:AV) (v:Value):V Ω a v->Rcv (.panicking [{v,recovered:=false}]) a Ω v (.panicking [{v,recovered:=true}])
structure RCcode(g:Nat)(R:RC)(c cc:Code):Prop where
 code:∃i1 i2 ty1 ps1 af1 ty2 ps2 af2 ts2 ty3 ps3 af3 ts3 ty4 ps4 af4,
  c=.seq R.r0 (.seq (.region i1 #[⟨some R.t5,.makeFunc (.func g) #[] R.caps.toArray,ty1,ps1,af1,none⟩,⟨none,.defer ⟨.value (.tmp R.t5),#[],ts2⟩,ty2,ps2,af2,none⟩] false) R.rest)/\
  cc=.seq (.region i2 #[⟨some R.t6,.call ⟨.builtin .recover,#[],ts3⟩,ty3,ps3,af3,none⟩,⟨some R.t3,.assign (.tmp R.t6),ty4,ps4,af4,none⟩] false) R.crest
theorem GK{g:Nat}{c cc:Code}{R:RC}(h:JD g c cc=some R):RCcode g R c cc:=by
 unfold JD at h;split at h
 ·rename_i r0 i1 o1 rest i2 o2 crest;split at h
  ·rename_i h1 h2;split at h
   ·rename_i hc;simp only[Ka,Nat.beq_eq,Array.isEmpty_iff]at hc;obtain⟨⟨⟨⟨⟨rfl,rfl⟩,rfl⟩,rfl⟩,rfl⟩,rfl⟩:=hc;simp only[Xs]at h;subst h;have e1:=Lu List.toArray h1;have e2:=Lu List.toArray h2;simp only[LO]at e1 e2;subst e1 e2;exact⟨_,_,_,_,_,_,_,_,_,_,_,_,_,_,_,_,rfl,rfl⟩
   ·cases h
  ·cases h
 ·cases h
theorem pq{ts:Array Nat}{d:Option Nat}{ty:Nat}{ps:String}{af:Array Edge}{ρ:Operand->Value}{w:World} :
  (execOp ρ ⟨d,.call ⟨.builtin .recover,#[],ts⟩,ty,ps,af,none⟩).run P w=.ok .recover w:=by
 simp[execOp,resolve,invoke,builtin]
theorem AX(hm:P.follows .mixedOrders=true)(hT:aX P C.tbl)(hS:bM P C.spec){g:Nat}{clo:Func}{c cc:Code}{R:RC}(hR:RCcode g R c cc)(hg:P.funcs[g]?=some clo)(hb:clo.body=some cc)
 (hd:bD clo.ntmps cc=true)(hres:clo.results=#[]){caps:List AV}(hcl:caps.length<=clo.ntmps)(hc6:caps.length<=R.t6){F:Fr}{s2:St}{a2:Act}{Ω2:Om}(h:Holds F s2.abs a2 Ω2){vs:List Value}(hv:VL Ω2 caps vs)
 {u u':FrameMode}{av:AV}{v:Value}(hrc:Rcv u av Ω2 v u'){annC:An}{fin:St->Prop}(hc:yb C annC clo R caps av s2 fin) :
  CallsD P g vs.toArray u Ω2.w fun en u2 w'=>u2=u'/\en=.returned (.tuple #[])/\∃s3 Ω3 a3 T,Ω3.w=w'/\fin s3/\Holds ⟨F.w0,F.pub0,clo.ntmps,F.e0,F.dom0,[],F.tab0⟩ ⟨T,al s3.b⟩ a3 Ω3:=by
 obtain⟨i1,i2,ty1,ps1,af1,ty2,ps2,af2,ts2,ty3,ps3,af3,ts3,ty4,ps4,af4,_,rfl⟩:=hR;refine callsD_of_wpS hg hb (fun c₀ cs hu=>?_);apply wpS_seq;apply wpS_region;simp only[bD,Ka,KR,NV,MF,MB]at hd;obtain⟨⟨hd6,hd3⟩,hdc⟩:=hd;have hvs:vs.length<=clo.ntmps:=by rw[<-hv.1];exact hcl
 have hbase:Holds ⟨F.w0,F.pub0,clo.ntmps,F.e0,F.dom0,[],F.tab0⟩ ⟨aS (da 0 caps),al s2.b⟩ {tmps:=vs.toArray++Array.replicate (clo.ntmps-vs.toArray.size) undef,defers:=[]} Ω2:=
  h.retmp' (fun i=>jk _ hv i) (by simp;omega) rfl
 have key:∃cs',(∃c1,cs'=c1::cs/\c1={c₀ with mode:=u'})/\∀Q':Exit->Act->List Frame->World->Prop,Q' .normal (({tmps:=vs.toArray++Array.replicate (clo.ntmps-vs.toArray.size) undef,defers:=[]}:Act).put (some R.t6) v|>.put (some R.t3) v) cs' Ω2.w->
   wpOpsS P #[⟨some R.t6,.call ⟨.builtin .recover,#[],ts3⟩,ty3,ps3,af3,none⟩,⟨some R.t3,.assign (.tmp R.t6),ty4,ps4,af4,none⟩] Q' [0,1] {tmps:=vs.toArray++Array.replicate (clo.ntmps-vs.toArray.size) undef,defers:=[]} (c₀::cs) Ω2.w:=by
  have two:∀(cs':List Frame)(Q':Exit->Act->List Frame->World->Prop),Q' .normal (({tmps:=vs.toArray++Array.replicate (clo.ntmps-vs.toArray.size) undef,defers:=[]}:Act).put (some R.t6) v|>.put (some R.t3) v) cs' Ω2.w->
    wpOpsS P #[⟨some R.t6,.call ⟨.builtin .recover,#[],ts3⟩,ty3,ps3,af3,none⟩,⟨some R.t3,.assign (.tmp R.t6),ty4,ps4,af4,none⟩] Q' [1] (({tmps:=vs.toArray++Array.replicate (clo.ntmps-vs.toArray.size) undef,defers:=[]}:Act).put (some R.t6) v) cs' Ω2.w:=by
   intro cs' Q' hq;have he:(({tmps:=vs.toArray++Array.replicate (clo.ntmps-vs.toArray.size) undef,defers:=[]}:Act).put (some R.t6) v).eval (.tmp R.t6)=v:=by show(Act.put _ (some R.t6) v).tmps.getD R.t6 undef=v;rw[cw hbase.size hd6,Kf rfl]
   unfold wpOpsS;simp only[Lo,Mu,M5,Region.wanted,Lf];have hr:(execOp (({tmps:=vs.toArray++Array.replicate (clo.ntmps-vs.toArray.size) undef,defers:=[]}:Act).put (some R.t6) v).eval ⟨some R.t3,.assign (.tmp R.t6),ty4,ps4,af4,none⟩).run P Ω2.w=.ok (.value v) Ω2.w:=by show(pure (Next.value (Act.eval _ (.tmp R.t6))):Sem Next).run P Ω2.w=_;rw[he];rfl
   rw[hr];simp only[Oper.upon];exact hq
  cases hrc with|ret=>refine⟨_,⟨c₀,rfl,by cases c₀;simp only at hu;subst hu;rfl⟩,fun Q' hq=>?_⟩;unfold wpOpsS;simp only[Lo,M5,Region.wanted,Lf];rw[pq];simp only[recoverD,hu];exact two _ Q' hq|pan _ _ hv'=>refine⟨_,⟨_,rfl,rfl⟩,fun Q' hq=>?_⟩;unfold wpOpsS;simp only[Lo,M5,Region.wanted,Lf];rw[pq];simp only[recoverD,hu];exact two _ Q' hq
 obtain⟨cs',⟨c1,rfl,hc1⟩,key⟩:=key;refine key _ ?_;refine wpS_of_wp ?_;unfold yb at hc;rw[iy,cU]at hc
 have hav:V Ω2 av v:=by
  cases hrc<;>first|exact .nilif|assumption
 have h1:=(hbase.pure (dst:=some R.t6) (val:=.undef) (v:=v) (.undef v) (fun d e=>by cases e;exact hd6)).pure (dst:=some R.t3) (val:=av) (v:=v) hav (fun d e=>by cases e;exact hd3)
 have h2:Holds ⟨F.w0,F.pub0,clo.ntmps,F.e0,F.dom0,[],F.tab0⟩ (St.abs ⟨fV (da 0 caps) R.t3 av,s2.b⟩) _ Ω2:=h1.weak (s':=St.abs ⟨fV (da 0 caps) R.t3 av,s2.b⟩) (fun i=>by
  simp only[St.abs,ed,bh];by_cases e3:R.t3=i
  ·right;simp[e3]
  ·by_cases e6:R.t6=i
   ·left;subst e6;rw[Kb e3,gg,Kf (Kg _),MO];simp[Ke,Kd hc6]
   ·right;simp[e3,e6]) rfl
 refine Mp (lC hm hT hS _ annC R.crest _ _ _ Ω2 hc hdc h2) ?_;intro e a' w' hq;obtain⟨z,s3,Ω3,q1,q2,q3,q4⟩:=hq;have fin3:fin s3->bodyPostS P clo c₀ cs (fun en u2 w'=>u2=u'/\en=.returned (.tuple #[])/\∃s3 Ω3 a3 T,Ω3.w=w'/\fin s3/\Holds ⟨F.w0,F.pub0,clo.ntmps,F.e0,F.dom0,[],F.tab0⟩ ⟨T,al s3.b⟩ a3 Ω3) .ret a' (c1::cs) w':=by intro hf;refine⟨q3.defers,u',by rw[hc1],.tuple #[],by simp[results,hres],rfl,rfl,s3,Ω3,a',_,q2,hf,q3⟩
 cases z with
 |normal=>cases q1;exact fin3 q4
 |ret=>cases q1;exact fin3 q4
 |exit id=>exact q4.elim
 |pan v=>exact q4.elim
theorem DV{w:World}{pub:Nat->Nat->Prop}{e:Nat->Option CObj}{n:Nat}{hl:∀id c,e id=some c->bn id=true}{ds:List Deferred}{ht:ik w pub e}{T:Nat->AV}{t:List (Nat×AV)}{b b':List (Nat×SObj)}{a:Act}{Ω:Om}{l:List AV}{us:List Value}{val:AV}
 (hh:Holds ⟨w,pub,n,e,hl,ds,ht⟩ ⟨T,al b⟩ a Ω)(k2:VL Ω l us)(hend:tP (some l) ⟨t,b⟩ val b') :
  ∃pub' e',V ⟨e',Ω.w,pub'⟩ val (if h:us.toArray.size=1 then us.toArray[0]else .tuple us.toArray)/\After w pub e (al b') Ω.w pub' e':=by
 unfold tP at hend;split at hend
 ·rename_i x hres;cases hres;obtain⟨u,rfl⟩:=jl (by rw[<-k2.1];rfl);have h1:=hh.retmp' (T:=aS (da 0 [x])) (a':={tmps:=[u].toArray++Array.replicate 0 undef,defers:=[]}) (n:=1) (ds:=[]) (fun i=>jk 0 k2 i) (by simp) rfl;obtain⟨Ω2,e2,hh2⟩:=dJ (s:=⟨[(0,x)],b⟩) h1 (gW hend);refine⟨Ω2.pub,Ω2.e,?_,?_⟩
  ·have:=hh2.tmps 0;rw[<-e2];exact this
  ·rw[<-e2];exact iz hh2
 ·rename_i l' hne hres;cases hres;split at hend
  ·rename_i rs;split at hend
   ·rename_i hln;have hl2:=bP _ _ hln;have h1:=hh.retmp' (T:=aS (da 0 l)) (a':={tmps:=us.toArray++Array.replicate 0 undef,defers:=[]}) (n:=us.length) (ds:=[]) (fun i=>jk 0 k2 i) (by simp) rfl;obtain⟨Ω2,e2,hh2⟩:=dJ (s:=⟨da 0 l,b⟩) h1 (gW hend);have hsz:¬us.toArray.size=1:=by intro h1;obtain⟨x,hx⟩:=jl (l:=l) (by rw[k2.1];simpa using h1);exact hne x hx
    rw[dif_neg hsz];refine⟨Ω2.pub,Ω2.e,?_,?_⟩
    ·refine .tup rs us (by rw[<-k2.1,<-hl2]) (fun j c v hc hv=>?_);have:=hh2.tmps j;simp only[St.abs,gg,Kg,Lf,MO,Ke,hc,L8]at this;have e3:(us.toArray++Array.replicate 0 undef).getD j undef=v:=by simp[Kv,hv]
     rw[e3]at this;rw[<-e2];exact this
    ·rw[<-e2];exact iz hh2
   ·exact hend.elim
  ·exact hend.elim
 ·rename_i h;cases h
theorem CLe.to_box{c:CObj}{b o l:Nat}(h:CLe c (.box b o l)):c=.box b o l:=by cases c<;>simp[CLe]at h;obtain⟨rfl,rfl,rfl⟩:=h;rfl
theorem V.ptrIn{F:Fr}{Ω2 Ω3:Om}{ks:List Nat}(h2:∀id c,F.e0 id=some c->∃c',Ω2.e id=some c'/\CLe c c')(h3:∀id c,F.e0 id=some c->∃c',Ω3.e id=some c'/\CLe c c')
 (hk:∀k∈ks,∃c,F.e0 k=some c){a:AV}{v:Value}(h:V Ω2 a v):V Ω3 (if AL.ptrIn ks a=true then a else .undef) v:=by
 split
 ·rename_i hp
  cases h with
  |ptr i o b q len he=>simp only[AL.ptrIn,L5,Kc]at hp;obtain⟨c,hc⟩:=hk i hp;obtain⟨c2,e2,l2⟩:=h2 i c hc;rw[he]at e2;cases e2;have:=l2.to_box;subst this;obtain⟨c3,e3,l3⟩:=h3 i _ hc;have:=l3.box;subst this;exact .ptr i o b q len e3
  |_=>simp[AL.ptrIn]at hp
 ·exact .undef v
theorem DW(hT:aX P C.tbl){w:World}{pub:Nat->Nat->Prop}{e:Nat->Option CObj}{n n1:Nat}{hl:∀id c,e id=some c->bn id=true}{ht:ik w pub e}{s1:St}{a1:Act}{Ω1:Om}{L:List dj}{ht1:ik Ω1.w Ω1.pub (cR L Ω1.e)}(h3:Holds ⟨w,pub,n,e,hl,[],ht⟩ s1.abs a1 Ω1)
 (hdist:ba (L.map (·.1))=true){S1:List (Nat×SObj)}(hS1:mP (al s1.b) L L 900=some S1){hl1:∀id c,cR L Ω1.e id=some c->bn id=true}(hk1:∀k∈aK S1,∃c,cR L Ω1.e k=some c)
 {ds:List Deferred}{s2:St}{a2:Act}{Ω2:Om}(q3:Holds ⟨Ω1.w,Ω1.pub,n,cR L Ω1.e,hl1,ds,ht1⟩ s2.abs a2 Ω2){s3:St}{a3:Act}{Ω3:Om}{T:Nat->AV}(h5:Holds ⟨Ω1.w,Ω1.pub,n1,cR L Ω1.e,hl1,[],ht1⟩ ⟨T,al s3.b⟩ a3 Ω3)
 {fn:Func}{S:List (Nat×SObj)}{A:Ans}(hpan:A.pan=none)(hf:GJ C fn.results.toList L s1 S1 S A s2.t s3) :
  ∃v,(results fn a2.tmps).run P Ω3.w=.ok v Ω3.w/\∃pub' e',(∀b pv u,A.pan=some (b,pv,u)->b=false)/\V ⟨e',Ω3.w,pub'⟩ A.val v/\After w pub e (al (cd S A.upd)) Ω3.w pub' e':=by
 unfold GJ at hf;split at hf
 ·rename_i hck;simp only[Ka,Kp]at hck;obtain⟨hd3,hin⟩:=hck;split at hf
  ·rename_i l hres;split at hf
   ·rename_i u' l' hu' hl';rw[cU]at hf
    have hR:Holds ⟨Ω1.w,Ω1.pub,n,cR L Ω1.e,hl1,ds,ht1⟩ (St.abs ⟨It (aK S1) s2.t,s3.b⟩) a2 Ω3:=by
     have:=h5.retmp' (T:=aS (It (aK S1) s2.t)) (a':=a2) (n:=n) (ds:=ds) (fun i=>by
      rw[show aS (It (aK S1) s2.t) i=if ptrIn (aK S1) (aS s2.t i)=true then aS s2.t i else .undef from n9 (fun x=>if ptrIn (aK S1) x=true then x else .undef) (by simp[ptrIn]) s2.t i];exact V.ptrIn (F:=⟨Ω1.w,Ω1.pub,n,cR L Ω1.e,hl1,ds,ht1⟩) q3.keep h5.keep hk1 (q3.tmps i)) q3.size q3.defers
     exact this
    obtain⟨us,k1,k2⟩:=fr hT hR _ _ hres;have hmap:(results fn a2.tmps).run P Ω3.w=.ok (if h:us.toArray.size=1 then us.toArray[0]else .tuple us.toArray) Ω3.w:=by rw[mw,<-LO (xs:=fn.results),N7];simp only[Ky,Sem.run_map,k1,Kj,KX]
    have hB:al (cd S1 s3.b)=al s3.b:=by
     funext i;rw[oE _ _ _ hd3]
     cases h:al s3.b i with
     |some o=>rfl
     |none=>
      cases h':al S1 i with|none=>rfl|some o=>have:=hin i (KM.2 ⟨(i,o),cr _ _ _ h',rfl⟩);simp only[L5,Kc]at this;exact absurd this (ji _ _ h)
    have hA:After Ω1.w Ω1.pub (cR L Ω1.e) (al (cd S1 s3.b)) Ω3.w Ω3.pub Ω3.e:=by rw[hB];exact iz (h5.retmp' (T:=T) (a':=a3) (n:=n1) (ds:=[]) h5.tmps h5.size h5.defers)
    obtain⟨Ω',w1,w2,w3⟩:=nU h3 (d:=998) (by omega) hdist hS1 hd3 hu' (val:=.tup l) (val':=.tup l') (by simp only[mapV,hl']) (v:=.tuple us.toArray) (V.of_tup k2) hA;obtain⟨us',e1,k3⟩:=w2.tup_inv;have e2:us=us':=by have:=Lu Array.toList (Value.tuple.inj e1);simpa using this
    subst e2;rw[show s1.abs.B=al s1.b from rfl,<-iv]at w3;obtain⟨pub',e',p1,p2⟩:=DV (T:=s1.abs.T) (b:=cd s1.b u') (t:=[]) w3 k3 hf;rw[w1]at p1 p2;exact⟨_,hmap,pub',e',(fun b pv u h=>by rw[hpan]at h;cases h),p1,p2⟩
   ·exact hf.elim
  ·exact hf.elim
 ·exact hf.elim
theorem fwpR_sound(hm:P.follows .mixedOrders=true)(hT:aX P C.tbl)(hS:bM P C.spec){ann annC:An}{f g:Nat}{fn clo:Func}(hf:P.funcs[f]?=some fn)(hg:P.funcs[g]?=some clo)
 (eg:∀args w,(callFunc g args).run P w=.ok (.enter g args) w){args:List AV}{S:List (Nat×SObj)}{A:Ans}(h:fwpR C ann annC fn g clo args S A):aF P f args S A:=by
 intro w pub e vs hp ht hv hs hdom hinj;unfold fwpR at h;split at h
 ·rename_i c cc hb hcb hpan;split at h
  ·exact h.elim
  ·rename_i R hR;split at h
   ·exact h.elim
   ·rename_i hck;simp only[Ka,Kp,Array.isEmpty_iff,MB]at hck;obtain⟨⟨⟨⟨⟨⟨⟨hk1,hk2⟩,hk5⟩,hk3⟩,hk4⟩,hres⟩,hcl⟩,hc6⟩:=hck;have hlen:=dR _ _ hk3;have hcl:=dR _ _ hcl;have hc6:=dR _ _ hc6;rw[iy,cU]at h
    have hlent:∀id c,e id=some c->bn id=true:=by
     intro id c hc
     cases hg:al S id with
     |none=>rw[hdom id hg]at hc;cases hc
     |some o=>exact hk4 id (KM.2 ⟨(id,o),cr _ _ _ hg,rfl⟩)
    have hRc:=GK hR;obtain⟨i1,i2,ty1,ps1,af1,ty2,ps2,af2,ts2,ty3,ps3,af3,ts3,ty4,ps4,af4,rfl,_⟩:=id hRc;refine calls_of_wp_defers hf hb ?_;have hh:=jN (n:=fn.ntmps) hp ht hv hlen hs hdom hinj hlent;have hdr:bD fn.ntmps R.r0=true/\bD fn.ntmps R.rest=true:=by simp only[bD,Ka]at hk1;exact⟨hk1.1,hk1.2.2⟩
    refine NR (Mp (lC (F:=⟨w,pub,fn.ntmps,e,hlent,[],ht⟩) hm hT hS _ ann R.r0 _ _ _ _ h hdr.1 hh) ?_);intro en a1 w1 hq;obtain⟨z,s1,Ω1,q1,rfl,h3,h4⟩:=hq
    cases z with
    |exit id=>exact h4.elim
    |ret=>exact h4.elim
    |pan pv=>exact h4.elim
    |normal=>
     cases q1;simp only at h4;generalize hLL:(aK s1.b).map (fun i=>(i,(none:Option (Nat×Nat))))=L at h4;split at h4
     ·rename_i as1 caps S1 hdl has hcaps hS1;simp only[Ka,NC]at hdl;obtain⟨hdist,hL100⟩:=hdl;split at h4
      ·rename_i hcp;rw[cU]at h4;obtain⟨k1,k2,k3⟩:=ic L 900 S1 hS1;refine NR (N6 ?_);show wpOps P _ _ [0,1] a1 Ω1.w;refine cu (o:=⟨some R.t5,.makeFunc (.func g) #[] R.caps.toArray,ty1,ps1,af1,none⟩) rfl rfl (aq (v:=.func (.func g) #[] (R.caps.toArray.map a1.eval)) (w':=Ω1.w) (by simp[execOp,Instr.makeFunc]) ?_);have he5:(a1.put (some R.t5) (.func (.func g) #[] (R.caps.toArray.map a1.eval))).eval (.tmp R.t5)=.func (.func g) #[] (R.caps.toArray.map a1.eval):=by show(Act.put a1 (some R.t5) _).tmps.getD R.t5 undef=_;rw[cw h3.size hk5,Kf rfl]
       refine cu (o:=⟨none,.defer ⟨.value (.tmp R.t5),#[],ts2⟩,ty2,ps2,af2,none⟩) rfl rfl ?_;have hrun:(execOp (a1.put (some R.t5) (.func (.func g) #[] (R.caps.toArray.map a1.eval))).eval ⟨none,.defer ⟨.value (.tmp R.t5),#[],ts2⟩,ty2,ps2,af2,none⟩).run P Ω1.w=.ok (.defer {target:=.fn (.func g) (R.caps.toArray.map a1.eval),args:=#[]}) Ω1.w:=by have he5':=he5;simp only[List.map_toArray]at he5';simp[execOp,resolve,he5',Deferred.ofValue]
       unfold Oper.wp;rw[hrun];have hcv:R.caps.toArray.map a1.eval=(R.caps.map a1.eval).toArray:=by simp
       have hdef0:a1.defers=[]:=h3.defers
       have hvl1:VL Ω1 ((List.range fn.ntmps).map (aS s1.t)) a1.tmps.toList:=by
        have hz:a1.tmps.size=fn.ntmps:=h3.size;refine⟨by simp;omega,fun j c v hc hv=>?_⟩;simp only[KF,KB]at hc;obtain⟨q,hq,rfl⟩:=hc;have hqj:q=j:=by have:=KS.1 hq;obtain⟨_,e⟩:=this;simpa using e.symm
        subst hqj;have:=h3.tmps q;rw[Ku]at hv;simp only[Kv,hv,L8]at this;exact this
       have hvc1:VL Ω1 (R.caps.map (opd (aS s1.t))) (R.caps.map a1.eval):=by refine⟨by simp,fun j c v hc hv=>?_⟩;simp only[KF,KB]at hc hv;obtain⟨x,hx,rfl⟩:=hc;obtain⟨y,hy,rfl⟩:=hv;rw[hx]at hy;cases hy;exact b5 h3 x
       have hvl:=hvl1.mapVs (ku L Ω1.e) has;have hvc:=hvc1.mapVs (ku L Ω1.e) hcaps;have hlent1:∀k i r,bd L k=some (i,r)->∃o o',s1.abs.B i=some o/\ez L r o=some o'/\al S1 k=some o':=by intro k i r hk;obtain⟨h1,h2⟩:=fo hk;obtain⟨o,o',q1,q2,q3⟩:=k2 _ i r h2;rw[show 900+(k-900)=k by omega]at q3;exact⟨o,o',q1,q2,q3⟩
       have hLs:∀q i r,nth L q=some (i,r)->∃o o',s1.abs.B i=some o/\ez L r o=some o':=fun q i r hq=>let ⟨o,o',q1,q2,_⟩:=k2 q i r hq;⟨o,o',q1,q2⟩
       have hslots:∀id o,al S1 id=some o->bf ⟨cR L Ω1.e,Ω1.w,Ω1.pub⟩ (fun _ _=>True) id o:=fun id o' ho'=>by obtain⟨q,i,r,o2,e1,e2,e3,e4⟩:=k1 id o' ho';subst e1;exact xg (cE (lv L i 900 q r hdist e2)) (h3.slots i o2 e3) e4
       have hdom1:∀id,al S1 id=none->cR L Ω1.e id=none:=fun id hid=>by
        unfold cR
        cases hl:bd L id with
        |none=>rfl
        |some x=>obtain⟨o1,o2,_,_,q3⟩:=hlent1 id x.1 x.2 hl;rw[hid]at q3;cases q3
       have hinj1:Inj (cR L Ω1.e):=fun i j c c' b oo hi hj ho1 ho2=>by obtain⟨i1,r1,c1,p1,p2,p3⟩:=jh h3.slots hLs hi;obtain⟨i2,r2,c2,p4,p5,p6⟩:=jh h3.slots hLs hj;have:=h3.inj i1 i2 c1 c2 b oo p2 p5 (p3 b oo ho1) (p6 b oo ho2);subst this;have a1:=dh hdist p1;have a2:=dh hdist p4;rw[a1]at a2;simp at a2;exact a2.1
       have hpin:∀id c,cR L Ω1.e id=some c->bn id=true:=by
        intro id c hc
        cases hg:al S1 id with
        |none=>rw[hdom1 id hg]at hc;cases hc
        |some o=>have:=k3 (id,o) (cr _ _ _ hg);simp only[bn,Ka,NC,MB];simp only at this;omega
       have hkS:∀k∈aK S1,∃c,cR L Ω1.e k=some c:=by
        intro k hk;obtain⟨x,hx,rfl⟩:=KM.1 hk
        cases hg:al S1 x.1 with
        |none=>exact absurd (KM.2 ⟨x,hx,rfl⟩) (ji _ _ hg)
        |some o=>
         have hso:=hslots x.1 o hg
         cases o with
         |box c=>obtain⟨_,_,e1,_⟩:=hso;exact⟨_,e1⟩
         |tail τ n=>obtain⟨_,_,e1,_⟩:=hso;exact⟨_,e1⟩
         |map κ τ m=>obtain⟨_,e1,_⟩:=hso;exact⟨_,e1⟩
         |bld t u l=>obtain⟨_,_,e1,_⟩:=hso;exact⟨_,e1⟩
         |tailp τ n x=>obtain⟨_,_,e1,_⟩:=hso;exact⟨_,e1⟩
         |grow τ n x=>obtain⟨_,_,e1,_⟩:=hso;exact⟨_,e1⟩
       have hlen1:as1.length<=fn.ntmps:=by have:=hvl.1;rw[this,LJ,h3.size];exact Kn _
       have hi1:=jN (n:=fn.ntmps) h3.pubok (h3.tabsC hLs) hvl hlen1 hslots hdom1 hinj1 hpin
       have hi2:=hi1.retmp' (T:=aS (da 0 as1)) (a':={tmps:=a1.tmps,defers:=[{target:=.fn (.func g) (R.caps.toArray.map a1.eval),args:=#[]}]}) (n:=fn.ntmps) (ds:=[{target:=.fn (.func g) (R.caps.toArray.map a1.eval),args:=#[]}])
        (fun i=>by
         have:=hi1.tmps i;have e0:(a1.tmps.toList.toArray++Array.replicate (fn.ntmps-a1.tmps.toList.toArray.size) undef)=a1.tmps:=by have hz:a1.tmps.size=fn.ntmps:=h3.size;apply Ll;simp[hz]
         rw[e0]at this;exact this) h3.size rfl
       have hi3:=hi2.pure (dst:=some R.t5) (val:=.undef) (v:=.func (.func g) #[] (R.caps.toArray.map a1.eval)) (.undef _) (fun d e=>by cases e;exact hk5)
       have hi4:=hi3.weak (s':=St.abs ⟨fV (da 0 as1) R.t5 .undef,S1⟩) (fun i=>by
        simp only[St.abs,ed,bh];by_cases e5:R.t5=i
        ·left;simp[e5]
        ·right;simp[e5]) rfl
       have hact:(({tmps:=a1.tmps,defers:=[{target:=.fn (.func g) (R.caps.toArray.map a1.eval),args:=#[]}]}:Act).put (some R.t5) (.func (.func g) #[] (R.caps.toArray.map a1.eval)))=
         ({(a1.put (some R.t5) (.func (.func g) #[] (R.caps.toArray.map a1.eval)))with defers:={target:=.fn (.func g) (R.caps.toArray.map a1.eval),args:=#[]}::(a1.put (some R.t5) (.func (.func g) #[] (R.caps.toArray.map a1.eval))).defers}:Act).put none undef:=by
        simp[Act.put,hdef0]
       show Code.wp P R.rest _ (({(a1.put (some R.t5) (.func (.func g) #[] (R.caps.toArray.map a1.eval)))with defers:={target:=.fn (.func g) (R.caps.toArray.map a1.eval),args:=#[]}::(a1.put (some R.t5) (.func (.func g) #[] (R.caps.toArray.map a1.eval))).defers}:Act).put none undef) Ω1.w;rw[<-hact];refine Mp (lC hm hT hS _ ann R.rest _ _ _ ⟨cR L Ω1.e,Ω1.w,Ω1.pub⟩ h4 hdr.2 hi4) ?_;intro en a2 w2 hq;obtain⟨z,s2,Ω2,g1,rfl,g3,g4⟩:=hq;have hcv2:VL Ω2 caps (R.caps.map a1.eval):=by refine⟨hvc.1,fun j c v hc hv=>?_⟩;exact V.pinned g3.keep (Kp.1 hcp c (KA hc)) (hvc.2 j c v hc hv)
       have hcl':caps.length<=clo.ntmps:=by rw[hvc.1,Lr];exact hcl
       have hc6':caps.length<=R.t6:=by rw[hvc.1,Lr];exact hc6
       have close:∀(u u':FrameMode)(av:AV)(v:Value),u≠.run->settle u'=.returning->Rcv u av Ω2 v u'->yb C annC clo R caps av s2 (GJ C fn.results.toList L s1 S1 S A s2.t)->
         Leaves P fn a2.tmps (fun en w'=>∃pub' e',match en with
          |.returned v=>(∀b pv u,A.pan=some (b,pv,u)->b=false)/\V ⟨e',w',pub'⟩ A.val v/\After w pub e (al (cd S A.upd)) w' pub' e'
          |.panicked ch=>∃pv u v,A.pan=some (true,pv,u)/\ch=[{v,recovered:=false}]/\V ⟨e',w',pub'⟩ pv v/\After w pub e (al (cd S u)) w' pub' e'
          |.outgrown=>False) [{target:=.fn (.func g) (R.caps.toArray.map a1.eval),args:=#[]}] u Ω2.w:=by
        intro u u' av v hu hse hrc hcr;refine leaves_cons (f:=g) (args:=(R.caps.map a1.eval).toArray) hu (by simp[invoke,eg]) ?_;refine(AX hm hT hS hRc hg hcb hk2 hres hcl' hc6' g3 hcv2 hrc hcr).mono ?_;rintro en u2 w3 ⟨rfl,rfl,s3,Ω3,a3,T3,rfl,hfin,h5⟩;simp only[hse,Leaves];obtain⟨v,r1,pub',e',r2,r3,r4⟩:=DW hT h3 hdist hS1 hkS g3 h5 hpan hfin;exact⟨v,r1,pub',e',r2,r3,r4⟩
       have hds:a2.defers=[{target:=.fn (.func g) (R.caps.toArray.map a1.eval),args:=#[]}]:=g3.defers
       cases z with
       |normal=>cases g1;show Leaves P fn a2.tmps _ a2.defers .returning Ω2.w;rw[hds];exact close .returning .returning .nilif .nilIface (by simp) rfl (.ret Ω2) g4
       |ret=>cases g1;show Leaves P fn a2.tmps _ a2.defers .returning Ω2.w;rw[hds];exact close .returning .returning .nilif .nilIface (by simp) rfl (.ret Ω2) g4
       |exit id=>exact g4.elim
       |pan pv=>obtain⟨v,rfl,hv⟩:=g1;show Leaves P fn a2.tmps _ a2.defers (.panicking [{v,recovered:=false}]) Ω2.w;rw[hds];exact close _ (.panicking [{v,recovered:=true}]) pv v (by simp) (by simp[settle]) (.pan Ω2 pv v hv) g4
      ·exact h4.elim
     ·exact h4.elim
 ·exact h.elim
end
end Go.AL
end
noncomputable section
namespace Go.AL
variable [Tabs]
mutual
def fineV:AV->Bool
 |.lstp _ _ _=>false
 |.tptr _ _ _=>false
 |.cptr c=>fineV c
 |.agg cs=>fineVs cs
 |.tup cs=>fineVs cs
 |.fn _ cs=>fineVs cs
 |.iface _ a=>fineV a
 |_=>true
def fineVs:List AV->Bool
 |[]=>true
 |a::r=>fineV a&&fineVs r
end
def J2:SObj->Bool
 |.box c=>fineV c
 |.tailp _ _ _=>false
 |_=>true
mutual
def strip:AV->AV
 |.lst τ xs _=>.lst τ xs none
 |.agg cs=>.agg (strips cs)
 |.tup cs=>.tup (strips cs)
 |a=>a
def strips:List AV->List AV
 |[]=>[]
 |a::r=>strip a::strips r
end
theorem jS(τ:Ty)(xs:List (den τ)):eF τ τ xs=some xs:=by simp[eF]
theorem AY(n:SN)(x:SD n):kc n n x=some x:=by simp[kc]
theorem AZ(n:SN)(x:Option (SD n)):oP n n x=some x:=by simp[oP]
theorem sj(a:AV):tO a a:=by cases a<;>trivial
mutual
theorem LeV_self(G:List Nat):∀a:AV,fineV a=true->LeV G a a
 |.undef,_=>bN (by simp[LeF])
 |.int k n,_=>bN (by simp[LeF])
 |.bool b,_=>bN (by simp[LeF])
 |.str s,_=>bN (by simp[LeF])
 |.lst τ xs o,_=>bN (by simp[LeF,jS])
 |.nils,_=>bN (by simp[LeF])
 |.ptr i o,_=>bN (by simp[LeF])
 |.nilp,_=>bN (by simp[LeF])
 |.pt n x,_=>bN (by simp[LeF,AZ])
 |.st n x,_=>bN (by simp[LeF,AY])
 |.row τ xs,_=>bN (by simp[LeF,jS])
 |.arr i n w,_=>bN (by simp[LeF])
 |.aptr i n w o,_=>bN (by simp[LeF])
 |.map i,_=>bN (by simp[LeF])
 |.glst _ _ _,_=>bN (by simp[LeF])
 |.gptr _ _ _ _ _,_=>bN (by simp[LeF])
 |.bptr i,_=>bN (by simp[LeF])
 |.nilif,_=>bN (by simp[LeF])
 |.nilm,_=>bN (by simp[LeF])
 |.cptr c,h=>by simp only[fineV]at h;unfold LeV;exact⟨sj c,LeV_self G c h⟩
 |.agg cs,h=>by simp only[fineV]at h;unfold LeV;exact LeL_self G cs h
 |.tup cs,h=>by simp only[fineV]at h;unfold LeV;exact LeL_self G cs h
 |.fn f cs,h=>by simp only[fineV]at h;unfold LeV;exact⟨by simp,LeL_self G cs h⟩
 |.iface t a,h=>by simp only[fineV]at h;unfold LeV;exact⟨by simp,LeV_self G a h⟩
 |.lstp _ _ _,h=>by cases h
 |.tptr _ _ _,h=>by cases h
theorem LeL_self(G:List Nat):∀l:List AV,fineVs l=true->LeL G l l
 |[],_=>by unfold LeL;trivial
 |a::r,h=>by simp only[fineVs,Ka]at h;unfold LeL;exact⟨LeV_self G a h.1,LeL_self G r h.2⟩
end
mutual
theorem LeV_strip(G:List Nat):∀a:AV,fineV a=true->LeV G a (strip a)
 |.lst τ xs o,_=>by unfold strip;exact bN (by simp[LeF,jS])
 |.agg cs,h=>by simp only[fineV]at h;unfold strip LeV;exact LeL_strip G cs h
 |.tup cs,h=>by simp only[fineV]at h;unfold strip LeV;exact LeL_strip G cs h
 |.undef,h=>LeV_self G _ h
 |.int k n,h=>LeV_self G _ h
 |.bool b,h=>LeV_self G _ h
 |.str s,h=>LeV_self G _ h
 |.nils,h=>LeV_self G _ h
 |.ptr i o,h=>LeV_self G _ h
 |.nilp,h=>LeV_self G _ h
 |.pt n x,h=>LeV_self G _ h
 |.st n x,h=>LeV_self G _ h
 |.row τ xs,h=>LeV_self G _ h
 |.arr i n w,h=>LeV_self G _ h
 |.aptr i n w o,h=>LeV_self G _ h
 |.map i,h=>LeV_self G _ h
 |.glst _ _ _,h=>LeV_self G _ h
 |.gptr _ _ _ _ _,h=>LeV_self G _ h
 |.bptr i,h=>LeV_self G _ h
 |.nilif,h=>LeV_self G _ h
 |.nilm,h=>LeV_self G _ h
 |.cptr c,h=>LeV_self G _ h
 |.fn f cs,h=>LeV_self G _ h
 |.iface t a,h=>LeV_self G _ h
 |.lstp _ _ _,h=>by cases h
 |.tptr _ _ _,h=>by cases h
theorem LeL_strip(G:List Nat):∀l:List AV,fineVs l=true->LeL G l (strips l)
 |[],_=>by unfold strips LeL;trivial
 |a::r,h=>by simp only[fineVs,Ka]at h;unfold strips LeL;exact⟨LeV_strip G a h.1,LeL_strip G r h.2⟩
end
theorem ye{G:List Nat}{s:St}:∀(l l':List AV)(k:Nat),LeL G l l'->(∀j,aS s.t (k+j)=l.getD j .undef)->LeT G s (da k l')
 |[],[],k,_,_=>trivial
 |a::r,b::r',k,h,hg=>by
  unfold LeL at h;refine⟨?_,ye r r' (k+1) h.2 fun j=>?_⟩
  ·have:=hg 0;rw[Ma]at this;rw[this];exact h.1
  ·have:=hg (j+1);rw[show k+1+j=k+(j+1) by omega,this];rfl
 |[],_::_,_,h,_=>by unfold LeL at h;exact h.elim
 |_::_,[],_,h,_=>by unfold LeL at h;exact h.elim
theorem jt{G:List Nat}{s:St}:∀l:List (Nat×SObj),(∀x∈l,al s.b x.1=some x.2/\J2 x.2=true)->LeB G s l
 |[],_=>trivial
 |(i,.box c)::r,h=>by obtain⟨h1,h2⟩:=h _ (KK ..);refine⟨?_,jt r fun x hx=>h x (Kx _ hx)⟩;simp only at h1;rw[h1];exact⟨sj c,LeV_self G c h2⟩
 |(i,.tail τ n)::r,h=>by obtain⟨h1,h2⟩:=h _ (KK ..);refine⟨?_,jt r fun x hx=>h x (Kx _ hx)⟩;simp only at h1;rw[h1];simp
 |(i,.map κ τ m)::r,h=>by obtain⟨h1,h2⟩:=h _ (KK ..);refine⟨?_,jt r fun x hx=>h x (Kx _ hx)⟩;simp only at h1;rw[h1];simp[Cj]
 |(i,.bld t u l)::r,h=>by obtain⟨h1,h2⟩:=h _ (KK ..);refine⟨?_,jt r fun x hx=>h x (Kx _ hx)⟩;simp only at h1;rw[h1];simp
 |(i,.tailp τ n x)::r,h=>by obtain⟨h1,h2⟩:=h _ (KK ..);cases h2
 |(i,.grow τ n xs)::r,h=>by obtain⟨h1,h2⟩:=h _ (KK ..);refine⟨?_,jt r fun x hx=>h x (Kx _ hx)⟩;simp only at h1;rw[h1];simp[jS]
end Go.AL
end
noncomputable section
namespace Go.AL
def pr(S:List (Nat×SObj))(x:Nat×SObj):Bool:=match al S x.1 with|some o=>eqO o x.2|none=>false
def GL:List AV->AV
 |[a]=>a
 |l=>.tup l
def GM(s:St)(l:List AV):List (Nat×SObj):=
 s.b.filter fun x=>bn x.1||(jd (al s.b) 64 (ids.idsL l++(aK s.b).filter bn) []).contains x.1
def JE:Bool->List AV->List AV
 |true,l=>l
 |false,l=>strips l
def GN(tok:Bool)(S:List (Nat×SObj))(s:St)(l:List AV):Option Ans:=
 evVs (JE tok l) fun l'=>evB (GM s l') fun kept=>
  match fineVs l&&(kept.all (fun x=>J2 x.2))&&ba (aK s.b)&&(aK S).all (fun i=>(aK kept).contains i)&&
    (cD ((aK s.b).filter fun i=>!(aK kept).contains i) ⟨da 0 l',kept⟩&&((aK s.b).filter fun i=>!(aK kept).contains i).all (fun i=>!bn i))with
  |true=>some ⟨none,none,GL l',kept.filter fun x=>!pr S x⟩
  |false=>none
theorem qd:∀{l:List (Nat×SObj)},ba (aK l)=true->∀{i:Nat} {o:SObj},(i,o)∈l->al l i=some o
 |[],_,_,_,h=>by cases h
 |(j,u)::r,hd,i,o,h=>by
  simp only[aK,KN,ba,Ka,Ko,L5,KD]at hd;rcases Ks.1 h with e|e
  ·cases e;simp[aR,aJ]
  ·have hne:¬j=i:=fun q=>hd.1 (KM.2 ⟨_,e,q.symm⟩);simp only[aR,aJ,La,hne,KP];exact qd hd.2 e
theorem gQ(p:Nat×SObj->Bool):∀{l:List (Nat×SObj)},ba (aK l)=true->ba (aK (l.filter p))=true
 |[],_=>rfl
 |x::r,hd=>by
  simp only[aK,KN,ba,Ka,Ko,L5,KD]at hd;have ih:=gQ p hd.2;rw[List.filter_cons];split
  ·simp only[aK,KN,ba,Ka,Ko,L5,KD];refine⟨fun h=>hd.1 ?_,ih⟩;obtain⟨y,hy,e⟩:=KM.1 h;exact KM.2 ⟨y,(L3.1 hy).1,e⟩
  ·exact ih
variable [Tabs]
theorem GO{l:List (Nat×SObj)}{i:Nat}(h:al l i=none):i∉aK l:=ji l i h
theorem sk{l:List (Nat×SObj)}{i:Nat}(h:i∉aK l):al l i=none:=by
 cases hb:al l i with|none=>rfl|some o=>exact absurd (KM.2 ⟨(i,o),cr l i o hb,rfl⟩) h
theorem Iu{S kept:List (Nat×SObj)}(hd:ba (aK kept)=true)(hS:∀i∈aK S,i∈aK kept):al (cd S (kept.filter fun x=>!pr S x))=al kept:=by
 funext i;have hdf:=gQ (fun x=>!pr S x) hd;rw[oE _ S i hdf]
 cases hk:al kept i with
 |some o=>
  have hm:=cr kept i o hk
  cases hs:pr S (i,o)with
  |false=>have:(i,o)∈kept.filter fun x=>!pr S x:=L3.2 ⟨hm,by rw[hs];rfl⟩;rw[qd hdf this];rfl
  |true=>
   have hn:al (kept.filter fun x=>!pr S x) i=none:=by
    cases hb:al (kept.filter fun x=>!pr S x) i with
    |none=>rfl
    |some o'=>have h1:=L3.1 (cr _ i o' hb);have h2:=qd hd h1.1;rw[hk]at h2;cases h2;have h3:=h1.2;rw[hs]at h3;cases h3
   rw[hn];unfold pr at hs;split at hs
   ·rename_i o' ho';simp only at ho' hs;rw[ho',Fp hs];rfl
   ·cases hs
 |none=>
  have h1:i∉aK kept:=GO hk;rw[sk (l:=S) fun h=>h1 (hS i h),sk fun h=>h1 ?_]
  ·rfl
  ·obtain⟨y,hy,e⟩:=KM.1 h;exact KM.2 ⟨y,(L3.1 hy).1,e⟩
theorem sl{G:List Nat}:∀{l m:List AV},LeL G l m->l.length=m.length
 |[],[],_=>rfl
 |_::_,_::_,h=>by unfold LeL at h;rw[Kq,Kq,sl h.2]
 |[],_::_,h=>by unfold LeL at h;exact h.elim
 |_::_,[],h=>by unfold LeL at h;exact h.elim
theorem DX{tok:Bool}{S:List (Nat×SObj)}{s:St}{l:List AV}{A:Ans}(h:GN tok S s l=some A) :
  A.ob=none/\A.pan=none/\∃l' kept,A.val=GL l'/\l'.length=l.length/\LeS ⟨da 0 l,s.b⟩ ⟨da 0 l',kept⟩/\al (cd S A.upd)=al kept:=by
 unfold GN at h;rw[evVs_eq,vX]at h;split at h
 ·rename_i hc;cases h;simp only[Ka,Kp]at hc;obtain⟨⟨⟨⟨h1,h2⟩,h3⟩,h4⟩,h5,h6⟩:=hc;refine⟨rfl,rfl,JE tok l,GM s (JE tok l),rfl,?_,⟨?_,?_,?_⟩,?_⟩
  ·cases tok with|true=>rfl|false=>exact(sl (LeL_strip [] l h1)).symm
  ·rw[Kf]
   ·trivial
   ·rw[Ka,Kp];exact⟨h5,h6⟩
  ·refine ye l _ 0 ?_ fun j=>?_
   ·cases tok with|true=>exact LeL_self _ l h1|false=>exact LeL_strip _ l h1
   ·show aS (da 0 l) (0+j)=_;rw[gg];simp
  ·refine jt _ fun x hx=>⟨?_,h2 x hx⟩;exact qd h3 (L3.1 hx).1
  ·refine Iu (gQ _ h3) fun i hi=>?_;have:=h4 i hi
   rwa [L5,Kc]at this
 ·cases h
structure FB where
 body:Code
 n:Nat
 res:List ResultVar
 keep:Nat
 pubs:List (Nat×List Nat)
 pend:Nat->Bool
 rows:Nat->Bool
 same:Nat->Bool
 tok:Bool
 ps:List (Option Ty)
def GP:Option Ty->AV->AV
 |some (.st n),a=>(match arg (.st n) a with|some x=>.st n x|none=>a)
 |_,a=>a
def CL:List (Option Ty)->List AV->List AV
 |p::ps,a::r=>GP p a::CL ps r
 |_,l=>l
def JF(C:Cfg)(N:Nat)(x:FB)(args:List AV)(S:List (Nat×SObj)):Option Ans:=
 evVs (CL x.ps args) fun args=>evB S fun S=>
  match lJ args x.n&&(aK S).all bn with
  |false=>none
  |true=>
   match js C x.keep x.pubs N x.body ⟨da 0 args,S⟩with
   |some (.normal,s)=>(match jZ C.tbl s x.res with|some l=>GN x.tok S s l|none=>none)
   |some (.ret,s)=>(match jZ C.tbl s x.res with|some l=>GN x.tok S s l|none=>none)
   |_=>none
variable {P:Program} {C:Cfg}
theorem GQ(p:Option Ty)(a:AV):Rd a (GP p a):=by
 unfold GP;split
 ·split
  ·rename_i x hx;exact Rd.arg hx
  ·exact Rd.refl a
 ·exact Rd.refl a
theorem yf:∀(ps:List (Option Ty))(l:List AV),RdL l (CL ps l)
 |[],l=>RdL.refl l
 |p::ps,[]=>.nil
 |p::ps,a::r=>.cons (GQ p a) (yf ps r)
theorem runF_meets(hm:P.follows .mixedOrders=true)(hT:aX P C.tbl)(hS:bM P C.spec){N:Nat}{x:FB}{f:Nat}{fn:Func}(hf:P.funcs[f]?=some fn)(hb:fn.body=some x.body)(hn:fn.ntmps=x.n)(hr:fn.results.toList=x.res)
 (hd:bD x.n x.body=true){args:List AV}{S:List (Nat×SObj)}{A:Ans}(h:JF C N x args S=some A):aF P f args S A:=by
 refine aF.args (yf x.ps args) ?_;intro w pub e vs hp ht hv hs hdom hinj;unfold JF at h;rw[evVs_eq,vX]at h;split at h
 ·cases h
 ·rename_i hck;simp only[Ka,Kp]at hck;obtain⟨hck2,hck3⟩:=hck;have hlen:=dR _ _ hck2
  have hlent:∀id c,e id=some c->bn id=true:=by
   intro id c hc
   cases hg:al S id with
   |none=>rw[hdom id hg]at hc;cases hc
   |some o=>exact hck3 id (KM.2 ⟨(id,o),cr _ _ _ hg,rfl⟩)
  have hrun:∃z s',js C x.keep x.pubs N x.body ⟨da 0 (CL x.ps args),S⟩=some (z,s')/\(match jZ C.tbl s' x.res with|some l=>GN x.tok S s' l|none=>none)=some A/\(z=.normal∨z=.ret):=by
   split at h
   ·rename_i s' hz;exact⟨_,s',hz,h,.inl rfl⟩
   ·rename_i s' hz;exact⟨_,s',hz,h,.inr rfl⟩
   ·cases h
  obtain⟨z,s',hz,he,hzz⟩:=hrun;refine calls_of_wp hf hb ?_;have hh:=jN (n:=fn.ntmps) hp ht hv (by rw[hn];exact hlen) hs hdom hinj hlent;rw[<-hn]at hd;refine Mp (AW (F:=⟨w,pub,fn.ntmps,e,hlent,[],ht⟩) hm hT hS _ _ N x.body _ z s' _ _ hz hd hh) ?_;intro en a' w' hq;obtain⟨z2,s2,Ω',h1,h2,h3,h4,h5⟩:=hq;subst h2 h4 h5
  have hmap:∀us,(fn.results.toList.mapM (oi a'.tmps)).run P Ω'.w=.ok us Ω'.w->
    (results fn a'.tmps).run P Ω'.w=.ok (if h:us.toArray.size=1 then us.toArray[0]else .tuple us.toArray) Ω'.w:=by
   intro us hus;rw[mw,<-LO (xs:=fn.results),N7];simp only[Ky,Sem.run_map,hus,Kj,KX]
  have main:a'.defers=[]/\∃v,(results fn a'.tmps).run P Ω'.w=.ok v Ω'.w/\∃pub' e',(∀b pv u,A.pan=some (b,pv,u)->b=false)/\V ⟨e',Ω'.w,pub'⟩ A.val v/\After w pub e (al (cd S A.upd)) Ω'.w pub' e':=by
   refine⟨h3.defers,?_⟩;split at he
   ·rename_i l hres;rw[<-hr]at hres;obtain⟨a1,a2,l',kept,a3,a4,a5,a6⟩:=DX he;obtain⟨us,k1,k2⟩:=fr hT h3 _ _ hres;obtain⟨Ω2,e2,hh2⟩:=dJ (s:=⟨da 0 l,s2.b⟩) (h3.retmp k2) a5;rw[a3,a6];refine⟨_,hmap us k1,Ω2.pub,Ω2.e,fun b pv u q=>(by rw[a2]at q;cases q),?_,by rw[<-e2];exact iz hh2⟩
    have hval:∀(j:Nat) c v,l'[j]?=some c->us[j]?=some v->V ⟨Ω2.e,Ω'.w,Ω2.pub⟩ c v:=fun j c v hc hv=>by
     have:=hh2.tmps j;simp only[St.abs,gg,Kg,Lf,MO,Ke,hc,L8]at this;have e3:(us.toArray++Array.replicate 0 undef).getD j undef=v:=by simp[Kv,hv]
     rw[e3]at this;rw[<-e2];exact this
    have hlu:l'.length=us.length:=a4.trans k2.1;by_cases h1':us.toArray.size=1
    ·rw[dif_pos h1'];obtain⟨u,rfl⟩:=jl (l:=us) (by simpa using h1');obtain⟨c,rfl⟩:=jl (l:=l') (by rw[hlu];rfl);exact hval 0 c u rfl rfl
    ·rw[dif_neg h1']
     have:GL l'=.tup l':=by
      match l',hlu with
      |[],_=>rfl
      |[c],q=>exact absurd (by simpa using q.symm) h1'
      |_::_::_,_=>rfl
     rw[this];exact .tup l' us hlu hval
   ·cases he
  rcases hzz with rfl|rfl
  ·cases h1;exact main
  ·cases h1;exact main
def CM:List (Nat×FB)->Nat->Option FB
 |[],_=>none
 |(j,x)::r,f=>if Nat.beq j f=true then some x else CM r f
def ar(tbl:List (Nat×TR))(fn:Func)(keep:Nat)(pubs:List (Nat×List Nat))(pend rows same:Nat->Bool)(tok:Bool):FB:=
 ⟨fn.body.getD .skip,fn.ntmps,fn.results.toList,keep,pubs,pend,rows,same,tok,fn.params.toList.map fun t=>(aE tbl t).bind (·.ty)⟩
def fbok(fn:Func):Bool:=match fn.body with | none=>false | some c=>bD fn.ntmps c && !(fn.name == "runtime.NumGoroutine")
def ah(P:Program)(tab:List (Nat×FB)):Prop:=∀f x,CM tab f=some x->
 ∃fn,P.funcs[f]?=some fn/\fn.body=some x.body/\fn.ntmps=x.n/\fn.results.toList=x.res/\bD x.n x.body=true/\(fn.name == "runtime.NumGoroutine")=false
theorem ah.nil:ah P []:=fun f x h=>by cases h
theorem ah.cons{tbl:List (Nat×TR)}{f:Nat}{fn:Func}{keep:Nat}{pubs:List (Nat×List Nat)}{pend rows same:Nat->Bool}{tok:Bool}{tab:List (Nat×FB)}(hf:P.funcs[f]?=some fn)(hc:fbok fn=true)(ht:ah P tab) :
  ah P ((f,ar tbl fn keep pubs pend rows same tok)::tab):=by
 intro g x h;unfold CM at h;split at h
 ·rename_i hb;obtain rfl:=Kz hb;cases h;unfold fbok at hc;split at hc
  ·cases hc
  ·rename_i c hb';simp only[Ka,Ko]at hc;exact⟨fn,hf,by simp[ar,hb'],rfl,rfl,by simpa[ar,hb']using hc.1,hc.2⟩
 ·exact ht g x h
def B0(tbl:List (Nat×TR))(tab:List (Nat×FB))(keeps:Nat->Bool)(lends:Nat->List (Option Nat))(N:Nat)(base:Nat->List AV->List (Nat×SObj)->Option Ans) :
  Nat->Nat->List AV->List (Nat×SObj)->Option Ans
 |0,f,us,S=>base f us S
 |n+1,f,us,S=>
  match base f us S with
  |some A=>some A
  |none=>
  match CM tab f with
  |none=>none
  |some x=>JF ⟨tbl,B0 tbl tab keeps lends N base n,keeps,lends,x.pend,x.rows,x.same⟩ N x us S
theorem CN{tbl:List (Nat×TR)}{tab:List (Nat×FB)}{keeps:Nat->Bool}{lends:Nat->List (Option Nat)}{N:Nat}{base:Nat->List AV->List (Nat×SObj)->Option Ans}
 (hm:P.follows .mixedOrders=true)(hT:aX P tbl)(hB:bM P base)(ht:ah P tab):∀n:Nat,bM P (B0 tbl tab keeps lends N base n)
 |0=>hB
 |n+1=>by
  intro f args S A h ho hl;unfold B0 at h;split at h
  ·rename_i A' hb;cases h;exact hB f args S A hb ho hl
  split at h
  ·cases h
  ·rename_i x hx;obtain⟨fn,h1,h2,h3,h4,h5,h6⟩:=ht f x hx;exact⟨⟨fn,h1,by rw[h2];rfl,h6⟩,runF_meets hm hT (CN hm hT hB ht n) h1 h2 h3 h4 h5 h⟩
theorem oF{tbl:List (Nat×TR)}{tab:List (Nat×FB)}{keeps:Nat->Bool}{lends:Nat->List (Option Nat)}{N n f:Nat}{base:Nat->List AV->List (Nat×SObj)->Option Ans}{args:List AV}{v:AV}{u:List (Nat×SObj)}
 (hm:P.follows .mixedOrders=true)(hT:aX P tbl)(hB:bM P base)(ht:ah P tab)(h:B0 tbl tab keeps lends N base n f args []=some ⟨none,none,v,u⟩):aF P f args [] ⟨none,none,v,u⟩:=
 (CN hm hT hB ht n f args [] _ h (fun _ q=>by cases q) rfl).2
end Go.AL
end
noncomputable section
namespace Go.AL
variable [Tabs] {P:Program}
def q1(τ:Ty)(b:den τ->Bool)(F:den τ->AV):Pat
 |[a],[]=>(match arg τ a with|some x=>(match b x with|true=>some (.ret (F x))|false=>none)|none=>none)
 |_,_=>none
theorem GR{f:Nat}{τ:Ty}{b:den τ->Bool}{F:den τ->AV}{O:den τ->Prop}(h:ag P f (p1 τ fun x=>⟨some (O x),none,F x,[]⟩))(hb:∀x,b x=true->O x):ag P f (q1 τ b F):=by
 intro args S A hA ho hl;unfold q1 at hA;split at hA
 ·rename_i a;split at hA
  ·rename_i x hx;split at hA
   ·rename_i ht;cases hA;have k:=h [a] [] ⟨some (O x),none,F x,[]⟩ (by simp[p1,hx]) (fun q hq=>by cases hq;exact hb x ht) hl;exact⟨k.1,k.2⟩
   ·cases hA
  ·cases hA
 ·cases hA
def q2(τ σ:Ty)(b:den τ->den σ->Bool)(F:den τ->den σ->AV):Pat
 |[a,c],[]=>(match arg τ a,arg σ c with|some x,some y=>(match b x y with|true=>some (.ret (F x y))|false=>none)|_,_=>none)
 |_,_=>none
theorem CO{f:Nat}{τ σ:Ty}{b:den τ->den σ->Bool}{F:den τ->den σ->AV}{O:den τ->den σ->Prop}(h:ag P f (p2 τ σ fun x y=>⟨some (O x y),none,F x y,[]⟩))(hb:∀x y,b x y=true->O x y):ag P f (q2 τ σ b F):=by
 intro args S A hA ho hl;unfold q2 at hA;split at hA
 ·rename_i a c;split at hA
  ·rename_i x y hx hy;split at hA
   ·rename_i ht;cases hA;have k:=h [a,c] [] ⟨some (O x y),none,F x y,[]⟩ (by simp[p2,hx,hy]) (fun q hq=>by cases hq;exact hb x y ht) hl;exact⟨k.1,k.2⟩
   ·cases hA
  ·cases hA
 ·cases hA
def CP(as0:List AV)(v:AV):Pat:=fun args S=>match eqVs as0 args,S with|true,[]=>some (.ret v)|_,_=>none
theorem CQ{f:Nat}{as0:List AV}{v:AV}(he:aB P f)(h:aF P f as0 [] (.ret v)):ag P f (CP as0 v):=by
 intro args S A hA ho hl;unfold CP at hA;split at hA
 ·rename_i heq;cases hA;rw[<-eqVs_ok _ _ heq];exact⟨he,h⟩
 ·cases hA
def t1(τ:Ty)(b:den τ->Bool):List AV->List (Nat×SObj)->Bool
 |[a],_=>(match arg τ a with|some x=>b x|none=>false)
 |_,_=>false
end Go.AL
end
section
open Go Go.AL Go.Proofs
namespace Go.AL.Seat
variable [Tabs]
def r1:TR:=⟨.other,1,8,[.undef],none⟩
def r2:TR:=⟨.int .i64,1,8,[.int .i64 0],some (.int .i64)⟩
def r5:TR:=⟨.int .u8,1,1,[.int .u8 0],some (.int .u8)⟩
def r7:TR:=⟨.strct true [(0,2),(1,3),(2,4),(3,6)],4,24,[.int .i64 0,.int .i64 0,.bool false,.int .u8 0],none⟩
def r9:TR:=⟨.str,1,16,[.str []],some .str⟩
def r12:TR:=⟨.int .u64,1,8,[.int .u64 0],some (.int .u64)⟩
def r13:TR:=⟨.strct false [(0,9),(1,12)],2,24,[.str [],.int .u64 0],none⟩
def r18:TR:=⟨.strct false [(0,17)],1,8,[.nilp],none⟩
def r20:TR:=⟨.iface,1,16,[.nilif],none⟩
def r21:TR:=⟨.int .i32,1,4,[.int .i32 0],some (.int .i32)⟩
def r79:TR:=⟨.map 77 3,1,8,[.nilm],none⟩
def DY:TR:=⟨.strct false [(0,99),(1,3),(2,69)],4,48,[.nils,.int .i64 0,.int .i64 0,.int .i64 0],none⟩
def Iv:TR:=⟨.strct false [(0,104),(4,26)],9,144,[.nils,.int .i64 0,.int .i64 0,.int .i64 0,.str [],.nils,.nils,.nils,.int .i64 0],none⟩
def Iw:TR:=⟨.strct true [(0,9),(1,3)],2,24,[.str [],.int .i64 0],none⟩
def Ix:TR:=⟨.strct false [(0,130),(2,99),(3,69)],5,64,[.str [],.int .i64 0,.nils,.int .i64 0,.int .i64 0],none⟩
def DZ:TR:=⟨.strct false [],0,0,[],none⟩
def E0:TR:=⟨.strct true [(0,3),(1,3),(2,3),(3,3)],4,32,[.int .i64 0,.int .i64 0,.int .i64 0,.int .i64 0],none⟩
def r272:TR:=⟨.strct true [(0,5),(1,5)],2,2,[.int .u8 0,.int .u8 0],none⟩
def r291:TR:=⟨.strct false [(0,9),(1,9),(2,226)],3,48,[.str [],.str [],.nilif],none⟩
def r303:TR:=⟨.strct true [(0,9)],1,16,[.str []],none⟩
def r316:TR:=⟨.strct false [(0,17),(1,17),(2,17),(3,9)],4,40,[.nilp,.nilp,.nilp,.str []],none⟩
def r327:TR:=⟨.strct false [(0,12),(1,12),(2,210),(3,322),(4,5),(5,5),(6,323),(7,324),(8,301),(9,325),(10,326)],11,48,[.int .u64 0,.int .u64 0,.int .u32 0,.int .u8 0,.int .u8 0,.int .u8 0,.int .u8 0,.undef,.nilp,.int .i32 0,.int .i32 0],none⟩
def tbl:List (Nat×TR):=[(1,r1),
 (2,r2),
 (3,r2),
 (4,⟨.bool,1,1,[.bool false],some .bool⟩),
 (5,r5),
 (6,r5),
 (7,r7),
 (8,r7),
 (9,r9),
 (10,r9),
 (11,r9),
 (12,r12),
 (13,r13),
 (14,r13),
 (15,⟨.ptr 317,1,8,[.nilp],none⟩),
 (16,⟨.ptr 320,1,8,[.nilp],none⟩),
 (17,⟨.ptr 328,1,8,[.nilp],none⟩),
 (18,r18),
 (19,r18),
 (20,r20),
 (21,r21),
 (22,⟨.slice 64,1,24,[.nils],some (.lst (.st .imp))⟩),
 (23,⟨.slice 58,1,24,[.nils],some (.lst (.st .decl))⟩),
 (24,⟨.slice 9,1,24,[.nils],some (.lst .str)⟩),
 (25,⟨.strct false [(0,9),(1,22),(2,23),(3,24),(4,3)],5,96,[.str [],.nils,.nils,.nils,.int .i64 0],none⟩),
 (26,⟨.strct false [(0,9),(1,22),(2,23),(3,24),(4,3)],5,96,[.str [],.nils,.nils,.nils,.int .i64 0],some (.st .modu)⟩),
 (27,r1),
 (28,⟨.slice 26,1,24,[.nils],some (.lst (.st .modu))⟩),
 (29,r1),
 (30,r1),
 (31,⟨.slice 77,1,24,[.nils],some (.lst (.st .nm))⟩),
 (32,r1),
 (33,r1),
 (34,r1),
 (35,r1),
 (36,⟨.slice 73,1,24,[.nils],some (.lst (.st .item))⟩),
 (37,⟨.strct false [(0,9),(1,36)],2,40,[.str [],.nils],none⟩),
 (38,⟨.strct false [(0,9),(1,36)],2,40,[.str [],.nils],some (.st .dep)⟩),
 (39,r1),
 (40,⟨.slice 38,1,24,[.nils],some (.lst (.st .dep))⟩),
 (41,r1),
 (42,r1),
 (43,r1),
 (44,r1),
 (45,⟨.slice 75,1,24,[.nils],some (.lst (.st .change))⟩),
 (46,r1),
 (47,r1),
 (48,r1),
 (49,r1),
 (50,r1),
 (51,⟨.slice 53,1,24,[.nils],some (.lst (.st .shape))⟩),
 (52,⟨.strct false [(0,3),(1,9),(2,9),(3,24),(4,51)],5,88,[.int .i64 0,.str [],.str [],.nils,.nils],none⟩),
 (53,⟨.strct false [(0,3),(1,9),(2,9),(3,24),(4,51)],5,88,[.int .i64 0,.str [],.str [],.nils,.nils],some (.st .shape)⟩),
 (54,⟨.slice 56,1,24,[.nils],some (.lst (.st .term))⟩),
 (55,⟨.strct false [(0,3),(1,9),(2,9),(3,3),(4,24),(5,24),(6,51),(7,54),(8,3)],9,152,[.int .i64 0,.str [],.str [],.int .i64 0,.nils,.nils,.nils,.nils,.int .i64 0],none⟩),
 (56,⟨.strct false [(0,3),(1,9),(2,9),(3,3),(4,24),(5,24),(6,51),(7,54),(8,3)],9,152,[.int .i64 0,.str [],.str [],.int .i64 0,.nils,.nils,.nils,.nils,.int .i64 0],some (.st .term)⟩),
 (57,⟨.strct false [(0,3),(1,9),(2,53),(7,56),(16,3)],17,272,[.int .i64 0,.str [],.int .i64 0,.str [],.str [],.nils,.nils,.int .i64 0,.str [],.str [],.int .i64 0,.nils,.nils,.nils,.nils,.int .i64 0,.int .i64 0],none⟩),
 (58,⟨.strct false [(0,3),(1,9),(2,53),(7,56),(16,3)],17,272,[.int .i64 0,.str [],.int .i64 0,.str [],.str [],.nils,.nils,.int .i64 0,.str [],.str [],.int .i64 0,.nils,.nils,.nils,.nils,.int .i64 0,.int .i64 0],some (.st .decl)⟩),
 (59,r1),
 (60,⟨.strct true [(0,3),(1,3),(2,3),(3,9)],4,40,[.int .i64 0,.int .i64 0,.int .i64 0,.str []],none⟩),
 (61,⟨.strct true [(0,3),(1,3),(2,3),(3,9)],4,40,[.int .i64 0,.int .i64 0,.int .i64 0,.str []],some (.st .version)⟩),
 (62,⟨.slice 66,1,24,[.nils],some (.lst (.st .bound))⟩),
 (63,⟨.strct false [(0,9),(1,61),(5,62),(6,3)],7,88,[.str [],.int .i64 0,.int .i64 0,.int .i64 0,.str [],.nils,.int .i64 0],none⟩),
 (64,⟨.strct false [(0,9),(1,61),(5,62),(6,3)],7,88,[.str [],.int .i64 0,.int .i64 0,.int .i64 0,.str [],.nils,.int .i64 0],some (.st .imp)⟩),
 (65,⟨.strct true [(0,3),(1,61)],5,48,[.int .i64 0,.int .i64 0,.int .i64 0,.int .i64 0,.str []],none⟩),
 (66,⟨.strct true [(0,3),(1,61)],5,48,[.int .i64 0,.int .i64 0,.int .i64 0,.int .i64 0,.str []],some (.st .bound)⟩),
 (67,r2),
 (68,⟨.strct true [(0,67),(1,3)],2,16,[.int .i64 0,.int .i64 0],none⟩),
 (69,⟨.strct true [(0,67),(1,3)],2,16,[.int .i64 0,.int .i64 0],some (.st .fault)⟩),
 (71,r1),
 (72,⟨.strct false [(0,3),(1,9),(2,53)],7,112,[.int .i64 0,.str [],.int .i64 0,.str [],.str [],.nils,.nils],none⟩),
 (73,⟨.strct false [(0,3),(1,9),(2,53)],7,112,[.int .i64 0,.str [],.int .i64 0,.str [],.str [],.nils,.nils],some (.st .item)⟩),
 (74,⟨.strct true [(0,3),(1,9)],2,24,[.int .i64 0,.str []],none⟩),
 (75,⟨.strct true [(0,3),(1,9)],2,24,[.int .i64 0,.str []],some (.st .change)⟩),
 (76,⟨.strct true [(0,9),(1,9)],2,32,[.str [],.str []],none⟩),
 (77,⟨.strct true [(0,9),(1,9)],2,32,[.str [],.str []],some (.st .nm)⟩),
 (78,r1),
 (79,r79),
 (80,r79),
 (81,r1),
 (82,r1),
 (83,r1),
 (84,r1),
 (85,r1),
 (86,r1),
 (87,r1),
 (88,r1),
 (89,r1),
 (90,r1),
 (91,r1),
 (92,r1),
 (93,r1),
 (94,r1),
 (95,r1),
 (96,r1),
 (97,r1),
 (98,r1),
 (99,⟨.slice 109,1,24,[.nils],some (.lst (.st .token))⟩),
 (101,r1),
 (102,⟨.ptr 106,1,8,[.nilp],none⟩),
 (103,DY),
 (104,DY),
 (105,Iv),
 (106,Iv),
 (107,r1),
 (108,⟨.strct true [(0,3),(1,9),(2,3)],3,32,[.int .i64 0,.str [],.int .i64 0],none⟩),
 (109,⟨.strct true [(0,3),(1,9),(2,3)],3,32,[.int .i64 0,.str [],.int .i64 0],some (.st .token)⟩),
 (110,r1),
 (111,r1),
 (112,r1),
 (113,r1),
 (114,r1),
 (115,r1),
 (116,r1),
 (117,r1),
 (118,r1),
 (119,r1),
 (120,r1),
 (121,⟨.slice 3,1,24,[.nils],some (.lst (.int .i64))⟩),
 (122,r1),
 (123,r1),
 (124,r1),
 (125,r1),
 (126,r1),
 (127,r1),
 (128,⟨.ptr 132,1,8,[.nilp],none⟩),
 (129,Iw),
 (130,Iw),
 (131,Ix),
 (132,Ix),
 (133,r1),
 (134,r1),
 (135,r1),
 (136,r1),
 (137,⟨.ptr 104,1,8,[.nilp],none⟩),
 (138,r1),
 (139,r1),
 (140,r1),
 (141,r1),
 (142,r1),
 (144,r1),
 (146,r1),
 (147,r1),
 (148,r1),
 (149,r1),
 (150,r1),
 (151,r1),
 (152,r1),
 (153,r1),
 (154,r1),
 (155,r1),
 (156,r1),
 (157,r1),
 (158,r1),
 (159,r1),
 (160,r1),
 (161,r12),
 (162,r1),
 (163,r1),
 (164,r1),
 (165,r1),
 (166,r1),
 (167,r1),
 (168,r1),
 (169,⟨.ptr 130,1,8,[.nilp],none⟩),
 (171,r1),
 (172,r1),
 (173,r1),
 (174,r1),
 (176,r1),
 (178,r1),
 (179,r1),
 (180,r1),
 (181,r1),
 (182,⟨.map 9 3,1,8,[.nilm],none⟩),
 (183,⟨.ptr 188,1,8,[.nilp],none⟩),
 (184,r1),
 (185,DY),
 (186,⟨.strct false [(0,99),(1,3),(2,69)],4,48,[.nils,.int .i64 0,.int .i64 0,.int .i64 0],some (.st .par)⟩),
 (187,⟨.strct false [(0,186)],4,48,[.nils,.int .i64 0,.int .i64 0,.int .i64 0],none⟩),
 (188,⟨.strct false [(0,186)],4,48,[.nils,.int .i64 0,.int .i64 0,.int .i64 0],some (.st .par)⟩),
 (189,r1),
 (190,r1),
 (191,r1),
 (192,r1),
 (194,r1),
 (195,r1),
 (196,r1),
 (198,r1),
 (199,r1),
 (200,r1),
 (201,r1),
 (202,r2),
 (204,r1),
 (205,r1),
 (206,r1),
 (208,r1),
 (209,r1),
 (210,⟨.int .u32,1,4,[.int .u32 0],some (.int .u32)⟩),
 (211,r1),
 (212,r12),
 (214,r1),
 (215,r1),
 (219,r1),
 (220,r1),
 (221,⟨.ptr 217,1,8,[.nilp],none⟩),
 (223,r1),
 (224,⟨.arr 3 3,3,24,[.int .i64 0,.int .i64 0,.int .i64 0],none⟩),
 (225,r20),
 (226,r20),
 (228,r1),
 (229,⟨.slice 5,1,24,[.nils],some (.lst (.int .u8))⟩),
 (230,r1),
 (231,r1),
 (232,r1),
 (233,⟨.ptr 186,1,8,[.nilp],none⟩),
 (234,r1),
 (235,r1),
 (236,r1),
 (237,r1),
 (238,r1),
 (239,DZ),
 (240,DZ),
 (242,r1),
 (243,r1),
 (244,r1),
 (245,r1),
 (246,r1),
 (247,r12),
 (248,r1),
 (249,r1),
 (250,r1),
 (251,⟨.ptr 3,1,8,[.nilp],none⟩),
 (252,r1),
 (253,r1),
 (254,r1),
 (255,r1),
 (256,E0),
 (257,E0),
 (258,r1),
 (259,r1),
 (260,r1),
 (261,r1),
 (262,r1),
 (263,r1),
 (264,r1),
 (265,⟨.ptr 247,1,8,[.nilp],none⟩),
 (266,r1),
 (267,r1),
 (268,r1),
 (269,r1),
 (270,r1),
 (272,r272),
 (273,r272),
 (275,r1),
 (276,r2),
 (278,r1),
 (279,⟨.ptr 292,1,8,[.nilp],none⟩),
 (280,r1),
 (281,r1),
 (282,r1),
 (283,r1),
 (284,r1),
 (285,r1),
 (286,r1),
 (287,r1),
 (289,r1),
 (290,r1),
 (291,r291),
 (292,r291),
 (293,r1),
 (295,r1),
 (296,r1),
 (297,r1),
 (298,r1),
 (299,r1),
 (300,r1),
 (301,⟨.ptr 5,1,8,[.nilp],none⟩),
 (302,⟨.ptr 304,1,8,[.nilp],none⟩),
 (303,r303),
 (304,r303),
 (305,r1),
 (307,r1),
 (309,r1),
 (310,r1),
 (315,r1),
 (316,r316),
 (317,r316),
 (321,r1),
 (322,r5),
 (323,r5),
 (324,r1),
 (325,r21),
 (326,r21),
 (327,r327),
 (328,r327)]
theorem tk{t:Nat}{r:TR}(h1:(Tryz.prog.info? t).map (fun i=>(i.size,i.bytes,i.zero.map fun z=>z.cells.toList.map bW))=some (r.size,r.bytes,some r.zero):=by kernel_rfl)
 (h2:(Tryz.prog.underlying t).map (aH Tryz.prog r.ti)=some true:=by kernel_rfl)
 (h3:(fB r.zero r.size&&(Nat.beq r.size 0||Nat.blt 0 r.bytes)&&(match r.ty with | some τ=>Nat.beq (ab τ) r.size&&(HR τ ==r.isAgg) | none=>true))=true:=by kernel_rfl)
 (h8:(Tryz.prog.info? t).map (fun i=>i.zero.map fun z=>zN z ==r.isAgg)=some (some true):=by kernel_rfl)
 (h9:(match r.ti with|.strct true _=>!Tryz.prog.stoodInHeld t&&!Tryz.prog.eqGuardType Tryz.prog.depth t|_=>true)=true:=by kernel_rfl):TRok Tryz.prog t r:=TRok.mk' h1 h2 h3 h8 h9
theorem GS:aX Tryz.prog tbl:=
 .cons tk (.cons tk (.cons tk (.cons tk (.cons tk (.cons tk (.cons tk (.cons tk (.cons tk (.cons tk (.cons tk (.cons tk (.cons tk (.cons tk (.cons tk (.cons tk (.cons tk (.cons tk (.cons tk (.cons tk (.cons tk (.cons tk (.cons tk (.cons tk (.cons tk (.cons tk (.cons tk (.cons tk (.cons tk (.cons tk (.cons tk (.cons tk (.cons tk (.cons tk (.cons tk (.cons tk (.cons tk (.cons tk (.cons tk (.cons tk (.cons tk (.cons tk (.cons tk (.cons tk (.cons tk (.cons tk (.cons tk (.cons tk (.cons tk (.cons tk (.cons tk (.cons tk (.cons tk (.cons tk (.cons tk (.cons tk (.cons tk (.cons tk (.cons tk (.cons tk (.cons tk (.cons tk (.cons tk (.cons tk (.cons tk (.cons tk (.cons tk (.cons tk (.cons tk (.cons tk (.cons tk (.cons tk (.cons tk (.cons tk (.cons tk (.cons tk (.cons tk (.cons tk (.cons tk (.cons tk (.cons tk (.cons tk (.cons tk (.cons tk (.cons tk (.cons tk (.cons tk (.cons tk (.cons tk (.cons tk (.cons tk (.cons tk (.cons tk (.cons tk (.cons tk (.cons tk (.cons tk (.cons tk (.cons tk (.cons tk (.cons tk (.cons tk (.cons tk (.cons tk (.cons tk (.cons tk (.cons tk (.cons tk (.cons tk (.cons tk (.cons tk (.cons tk (.cons tk (.cons tk (.cons tk (.cons tk (.cons tk (.cons tk (.cons tk (.cons tk (.cons tk (.cons tk (.cons tk (.cons tk (.cons tk (.cons tk (.cons tk (.cons tk (.cons tk (.cons tk (.cons tk (.cons tk (.cons tk (.cons tk (.cons tk (.cons tk (.cons tk (.cons tk (.cons tk (.cons tk (.cons tk (.cons tk (.cons tk (.cons tk (.cons tk (.cons tk (.cons tk (.cons tk (.cons tk (.cons tk (.cons tk (.cons tk (.cons tk (.cons tk (.cons tk (.cons tk (.cons tk (.cons tk (.cons tk (.cons tk (.cons tk (.cons tk (.cons tk (.cons tk (.cons tk (.cons tk (.cons tk (.cons tk (.cons tk (.cons tk (.cons tk (.cons tk (.cons tk (.cons tk (.cons tk (.cons tk (.cons tk (.cons tk (.cons tk (.cons tk (.cons tk (.cons tk (.cons tk (.cons tk (.cons tk (.cons tk (.cons tk (.cons tk (.cons tk (.cons tk (.cons tk (.cons tk (.cons tk (.cons tk (.cons tk (.cons tk (.cons tk (.cons tk (.cons tk (.cons tk (.cons tk (.cons tk (.cons tk (.cons tk (.cons tk (.cons tk (.cons tk (.cons tk (.cons tk (.cons tk (.cons tk (.cons tk (.cons tk (.cons tk (.cons tk (.cons tk (.cons tk (.cons tk (.cons tk (.cons tk (.cons tk (.cons tk (.cons tk (.cons tk (.cons tk (.cons tk (.cons tk (.cons tk (.cons tk (.cons tk (.cons tk (.cons tk (.cons tk (.cons tk (.cons tk (.cons tk (.cons tk (.cons tk (.cons tk (.cons tk (.cons tk (.cons tk (.cons tk (.cons tk (.cons tk (.cons tk (.cons tk (.cons tk (.cons tk (.cons tk (.cons tk (.cons tk (.cons tk (.cons tk (.cons tk (.cons tk (.cons tk (.cons tk (.cons tk (.cons tk (.cons tk (.cons tk (.cons tk (.cons tk (.cons tk (.cons tk (.cons tk (.cons tk (.cons tk (.cons tk (.cons tk (.cons tk (.cons tk (.cons tk (.cons tk (.cons tk (.cons tk (.cons tk (.cons tk (.cons tk (.cons tk (.cons tk (.cons tk (.cons tk (.cons tk (.cons tk (.cons tk (.cons tk (.cons tk (.cons tk (.cons tk (.cons tk (.cons tk (.cons tk (.cons tk (.cons tk (.nil))))))))))))))))))))))))))))))))))))))))))))))))))))))))))))))))))))))))))))))))))))))))))))))))))))))))))))))))))))))))))))))))))))))))))))))))))))))))))))))))))))))))))))))))))))))))))))))))))))))))))))))))))))))))))))))))))))))))))))))))))))))))))))))))))))))))))))))))))))))))))))))))))))))))
theorem mixed:Tryz.prog.follows .mixedOrders=true:=by kernel_rfl
end Go.AL.Seat
end
section
namespace Go.AL
open Go.Shelf Go.Proofs Go.RowKit
variable [Tabs] {P:Program} {ρ:Ren}
theorem After.newRow{w w':World}{pub:Nat->Nat->Prop}{e:Nat->Option CObj}(hp:kr w pub)(hd:∀id,e id=none)(hb:Below w.heap.size w w'){g:Nat}(hg:w.heap.size<=g){p:Nat->Prop}(hc:∀o,p o->∃v,w'.cell? ⟨g,o,none⟩=some v) :
  After w pub e (al (cd [] [])) w' (fun b o=>pub b o∨(b=g/\p o)) e where
 os:=hb.os
 tape:=hb.tape
 output:=hb.output
 size:=hb.size
 block b h _:=hb.block b h
 cell b o h _:=aj (hb.block b h) o
 kind b h _:=⟨aW (hb.block b h),fun o=>aN (hb.block b h) o⟩
 ext:=⟨fun _ c h=>⟨c,h,CLe.refl c⟩,fun _ _ h=>.inl h,fun b o h=>by obtain⟨v,hv⟩:=hp b o h;exact aj (hb.block b (aQ hv)) o⟩
 fresh b o h:=by
  rcases h with h|⟨rfl,_⟩
  ·exact .inl h
  ·exact .inr (.inl hg)
 ok b o h:=by
  rcases h with h|⟨rfl,h⟩
  ·obtain⟨v,hv⟩:=hp b o h;exact⟨v,(aj (hb.block b (aQ hv)) o).trans hv⟩
  ·exact hc o h
 slots id o h:=by simp[cd,aR,aJ]at h
 dom id _:=hd id
 inj i j c d b o h:=by rw[hd i]at h;cases h
theorem yg(L:Lays2.n16 P ρ)(l:List Str)(hb:l.length *16<=140737488355328){ob:Option Prop}:aF P (ρ.f 16) [.lst .str l none] [] ⟨ob,none,.lst .str l none,[]⟩:=by
 intro w pub e vs hp ht hv hs hd hi;have he:e=fun _=>none:=funext fun id=>hd id rfl;subst he;obtain⟨v,rfl,hV⟩:=hv.one_inv
 cases hV with
 |lstNil _ _ tok=>refine(Any.slices_Clone_string_nil L 0 0 w).mono ?_;rintro en w' ⟨rfl,rfl⟩;exact⟨pub,_,fun b pv u h=>(by cases h),.lstNil _ _ tok,After.below hp (fun _=>rfl) (Below.refl _ _)⟩
 |lstVoid _ a=>
  refine(Any.slices_Clone_string_zero L a 0 w).mono ?_;rintro en w' ⟨v',rfl,⟨hl,hrow⟩,hn,hbw⟩;refine⟨pub,_,fun b pv u h=>(by cases h),?_,After.below hp (fun _=>rfl) hbw⟩;rcases hrow with⟨rfl,hz⟩|⟨g,cap,cur,rfl,hbase,hg,h1,h2,h3,h4⟩
  ·exact absurd rfl hn
  ·exact .lst .str [] none g 0 cap (fun _ _=>.bool false) (Kg _) (by unfold maxLen at h2;unfold b6;omega) (fun id h=>by cases h) (fun i x hx=>by cases hx) (fun i x hx=>by cases hx)
 |lst _ _ _ b off cap vals h1 h2 tok hcell hval=>
  have at_:∀i (hi:i<l.length),w.cell? ⟨b,off+i,none⟩=some (.string ⟨l[i].toArray⟩)/\l[i].length<=b6:=fun i hi=>by have hx:l[i]?=some l[i]:=K9 hi;obtain⟨_,c1⟩:=hcell i l[i] hx 0 (.str l[i]) rfl;have c2:=hval i l[i] hx 0 (.str l[i]) rfl;obtain⟨c3,c4⟩:=c2.str_inv;rw[c3,show off+(i *ab .str+0)=off+i by rw[show ab .str=1 from rfl];omega]at c1;exact⟨c1,c4⟩
  refine(Any.slices_Clone_string L b off l.length cap (l.map fun s=>(⟨s.toArray⟩:ByteArray)) w (by simp) hb (fun j hj=>?_)).mono ?_
  ·have hj':j<l.length:=by simpa using hj
   rw[(at_ j hj').1,Ke,KF,K9 hj'];rfl
  rintro en w' ⟨v',rfl,⟨hl,hrow⟩,hn,hbw⟩;rcases hrow with⟨rfl,hz⟩|⟨g,cap',cur,rfl,hbase,hg,k1,k2,k3,k4⟩
  ·exact absurd rfl hn
  have hcur:∀i (hi:i<l.length),cur[i]?=some (.string ⟨l[i].toArray⟩):=fun i hi=>by
   have:(cur.toList.take (l.length *1))[i]?=some (.string ⟨l[i].toArray⟩):=by rw[k4,KF,KH];simp[hi]
   rw[KH]at this;split at this
   ·simpa using this
   ·cases this
  refine⟨fun b o=>pub b o∨(b=g/\o<l.length),_,fun b pv u h=>(by cases h),?_,After.newRow hp (fun _=>rfl) hbw hbase (p:=fun o=>o<l.length) (fun o ho=>⟨_,by rw[ak hg];exact hcur o ho⟩)⟩;refine .lst .str l none g 0 cap' (fun i _=>.string ⟨(l.getD i []).toArray⟩) k1 (by unfold maxLen at k2;unfold b6;omega) (fun id h=>by cases h) (fun i x hx j c hc=>?_) (fun i x hx j c hc=>?_)
  ·obtain⟨hi,rfl⟩:=KS.1 hx
   have hj:j=0:=by
    cases j with|zero=>rfl|succ j=>simp[cells]at hc
   subst hj;rw[show 0+(i *ab .str+0)=i by rw[show ab .str=1 from rfl];omega];refine⟨.inr ⟨rfl,hi⟩,?_⟩;show w'.cell? ⟨g,i,none⟩=_;rw[ak hg,hcur i hi,Ke,K9 hi];rfl
  ·obtain⟨hi,rfl⟩:=KS.1 hx
   have hj:j=0:=by
    cases j with|zero=>rfl|succ j=>simp[cells]at hc
   subst hj;have e1:c=.str l[i]:=by simpa[cells]using hc.symm
   subst e1;rw[Ke,K9 hi];exact .str _ (at_ i hi).2
def yh:Pat:=p1 (.lst .str) fun l=>⟨some (l.length *16<=140737488355328),none,.lst .str l none,[]⟩
theorem yi{f:Nat}(L:Lays2.n16 P ρ)(hf:ρ.f 16=f)(he:aB P f):ag P f yh:=by subst hf;exact aL he fun l _ ho=>yg L l (ho _ rfl)
end Go.AL
end
section
namespace Go.Proofs
open Go.Shelf
def Tryz.lays2_16_ren:Go.Shelf.Ren:=⟨fun|16=>71|n=>n,fun|24=>24|9=>9|4=>4|n=>n,fun|n=>n⟩
theorem Tryz.lays2_16:Go.Proofs.Lays2.n16 Tryz.prog Tryz.lays2_16_ren:={
 mixed:=by kernel_rfl
 f16:=Xt Tryz.func71
 t4:=Tryz.underlying4
 a4:=Tryz.isAgg4
 z4:=Tryz.sizeOf4
 v4:=Tryz.zeroValue4
 t9:=Tryz.underlying9
 a9:=Tryz.isAgg9
 z9:=Tryz.sizeOf9
 v9:=Tryz.zeroValue9
 t24:=Tryz.underlying24
 a24:=Tryz.isAgg24
 z24:=Tryz.sizeOf24
 v24:=Tryz.zeroValue24
 i9:=by kernel_rfl}
end Go.Proofs
end
section
namespace Go.AL.Seat
open Go Go.AL Go.Proofs Go.Shelf Go.Pd
variable [Tabs]
theorem E1:ag Tryz.prog 71 yh:=yi Tryz.lays2_16 rfl (aB.mk' Tryz.func71 (by kernel_rfl))
end Go.AL.Seat
end
section
namespace Go.Proofs
open Go.Shelf
def Tryz.lays106_ren:Go.Shelf.Ren:=⟨fun|106=>195|213=>235|265=>273|n=>n,fun|9=>9|3=>3|n=>n,fun|n=>n⟩
theorem Tryz.lays106:Go.Proofs.Lays.n106 Tryz.prog Tryz.lays106_ren:={
 mixed:=by kernel_rfl
 f106:=Xt Tryz.func195
 f213:=Xt Tryz.func235
 f265:=Xt Tryz.func273
 t3:=Tryz.underlying3
 a3:=Tryz.isAgg3
 z3:=Tryz.sizeOf3
 v3:=Tryz.zeroValue3
 t9:=Tryz.underlying9
 a9:=Tryz.isAgg9
 z9:=Tryz.sizeOf9
 v9:=Tryz.zeroValue9}
end Go.Proofs
end
section
namespace Go.AL.Seat
open Go Go.AL Go.Proofs Go.Shelf Go.Pd Go.RowKit
variable [Tabs]
theorem pw:ag Tryz.prog 195 (p2 .str .str fun a b=>.ret (.int .i64 (fw a b))):=by
 refine bY (aB.mk' Tryz.func195 (by kernel_rfl)) fun a b _ _ _=>?_;refine dX fun w pub vs ht hv=>?_;obtain⟨rfl,l1,l2⟩:=VL.two_str hv;refine(Any.strings_Compare Tryz.lays106 _ _ w).mono ?_;rintro en w' ⟨rfl,rfl⟩;refine⟨⟨_,rfl,fun Ω=>?_⟩,Below.refl _ _⟩;have e2:Lib.compareBytes (⟨a.toArray⟩:ByteArray).data.toList (⟨b.toArray⟩:ByteArray).data.toList=fw a b:=rW a b;rw[e2];unfold fw;split
 ·exact .int _ _ (by decide) (by decide)
 ·split
  ·exact .int _ _ (by decide) (by decide)
  ·exact .int _ _ (by decide) (by decide)
end Go.AL.Seat
end
section
namespace Go.Pd
open Go.AL
theorem lD{c:UInt8}:∀(a r:Str),(∀x∈a,x≠c)->splitB c (a++c::r)=a::splitB c r
 |[],r,_=>by show(if c=c then _ else _)=_;rw[Kf rfl]
 |b::a,r,h=>by have ih:=lD a r (fun x hx=>h x (Kx _ hx));show(if b=c then _ else match splitB c (a++c::r)with|[]=>[[b]]|p::ps=>(b::p)::ps)=_;rw[Kb (h b (KK ..)),ih]
theorem oG(c:UInt8):∀s:Str,splitB c s≠[]
 |[]=>by simp[splitB]
 |b::r=>by
  unfold splitB;split
  ·simp
  ·split<;>simp
end Go.Pd
end
section
open Go Go.Proofs Go.RowKit Go.Pd
namespace Go.AL.Seat
def vS(s:Str):Value:=.string ⟨s.toArray⟩
def fR(acc:List Str)(b:UInt8):List Str:=if b=46 then acc++[[]]else acc.set (acc.length-1) (acc.getD (acc.length-1) []++[b])
def cZ(s:Str)(k:Nat):List Str:=(s.take k).foldl fR [[]]
theorem iV(s:Str)(k:Nat)(h:k<s.length):cZ s (k+1)=fR (cZ s k) (s[k]'h):=by unfold cZ;rw[Nb h,N9];rfl
theorem B1(acc:List Str)(b:UInt8)(h:1<=acc.length):1<=(fR acc b).length/\(fR acc b).length<=acc.length+1:=by
 unfold fR;split
 ·rw[Kw];simp
 ·rw[List.length_set];omega
theorem mH(s:Str):∀k,k<=s.length->1<=(cZ s k).length/\(cZ s k).length<=k+1
 |0,_=>⟨Kn _,Kn _⟩
 |k+1,h=>by obtain⟨h1,h2⟩:=mH s k (by omega);rw[iV s k (by omega)];have:=B1 (cZ s k) (s[k]'(by omega)) h1;omega
theorem B2{acc:List Str}{b:UInt8}{m:Nat}(h:∀x∈acc,x.length<=m):∀x∈fR acc b,x.length<=m+1:=by
 intro x hx;unfold fR at hx;split at hx
 ·rcases KZ.1 hx with k|k
  ·have:=h x k;omega
  ·simp only[L2]at k;subst k;simp
 ·rcases List.mem_or_eq_of_mem_set hx with k|k
  ·have:=h x k;omega
  ·subst k;rw[Kw];rcases Kl (acc.length-1) acc.length with q|q
   ·have:=h (acc.getD (acc.length-1) []) (by rw[Ke,K9 q];exact Me q);simp only[L9];omega
   ·rw[Ke,Kd q];simp
theorem mI(s:Str):∀k,k<=s.length->∀x∈cZ s k,x.length<=k
 |0,_=>fun x hx=>by simp[cZ]at hx;subst hx;simp
 |k+1,h=>by rw[iV s k (by omega)];exact B2 (mI s k (by omega))
theorem Tryz.info9':(Tryz.prog.info? 9).map (fun i=>(i.zero,i.size,i.bytes))=some (some (.string ByteArray.empty),1,16):=by kernel_rfl
set_option maxHeartbeats 1600000 in
set_option maxRecDepth 1000000 in
theorem E2(s:Str)(w:World)(hs:s.length<=4096) :
  Calls Tryz.prog 104 #[vS s] w fun e w'=>∃v,e=.returned v/\w'.ownsRow w.heap.size 9 1 v (cZ s s.length).length ((cZ s s.length).map vS)/\Below w.heap.size w w':=by
 obtain⟨i0,hi,hz0,hz1,hz2⟩:=info_parts Tryz.info9';unfold vS
 go_enter Tryz.func104,Tryz.ntmps104
 go_wp2
 go_loopw [3,4] (fun v i wr=>∃k:Nat,k<=s.length/\i=.int .i64 k/\wr.ownsRow w.heap.size 9 1 v (cZ s k).length ((cZ s k).map vS)/\Below w.heap.size w wr)
  (fun _ i _=>s.length-(RowKit.intOf i).toNat)
 case atStart=>
  exact⟨0,Kg _,rfl,⟨rfl,.inr ⟨w.heap.size,1,#[.string ⟨#[]⟩],rfl,Kn _,heap_alloc_new w _,Kn _,by decide,rfl,rfl⟩⟩,(Below.refl _ _).alloc (Kn _) _⟩
 case round=>
  obtain⟨k,hk,rfl,hown,hnx⟩:=hrel;have hpl:=mH s k hk;obtain⟨n,hn⟩:∃n,(cZ s k).length=n+1:=⟨_,(Nat.succ_pred (by omega)).symm⟩;rw[hn]at hown;have hsh:=hown.2;rcases hsh with⟨_,h0⟩|⟨g,cap,cur,rfl,hg1,_,hg2,hg3,_,_⟩
  ·omega
  have hfz:wr.frozen? ⟨g,n,none⟩=false:=hown.frozenAt n;by_cases hlt:k<s.length
  ·have hlt':k<(⟨s.toArray⟩:ByteArray).size:=by show k<s.toArray.size;simpa using hlt
   by_cases hd:(s[k]'hlt).toNat=46
   ·have hnext:cZ s (k+1)=cZ s k++[[]]:=by rw[iV s k hlt];unfold fR;rw[Kf (Ns.1 hd)]
    have hd2:((((⟨s.toArray⟩:ByteArray)[k]'hlt').toNat:Int) ==46)=true:=by
     have e:((⟨s.toArray⟩:ByteArray)[k]'hlt').toNat=(s[k]'hlt).toNat:=by rfl
     rw[e,hd];rfl
    go_wp2_with (at_builtin;refine wpList_append_own _ rfl _ _ 24 rfl w.heap.size 9 i0 (.string ByteArray.empty) 1 16 Tryz.underlying24 hi hz0 hz1 hz2 rfl (by decide) _ _ _ rfl (hown.alloc _) ⟨wr.heap.size,0,none⟩ 1 1 [.string ByteArray.empty] rfl rfl ?c1 ?c2 ?c3 ?c4 ?c5 ?_)
    case c1=>
     intro j u hj
     match j,hj with
     |0,hj=>simp at hj;subst hj;simp[Addr.add];rfl
    case c2=>intro u hu;simp at hu;subst hu;rfl
    case c3=>unfold maxLen;omega
    case c4=>omega
    case c5=>have:=hnx.size;simp;omega
    intro v' w1 hown' hgrow _;have hown2:w1.ownsRow w.heap.size 9 1 v' (cZ s (k+1)).length ((cZ s (k+1)).map vS):=by rw[hnext,Kw,hn,M6];exact hown'
    clear hown'
    go_wp2
    go_roundw
    case rel=>exact⟨k+1,by omega,by go_num,hown2,(hnx.alloc (by have:=hnx.size;omega) _).grown hgrow (by have:=hnx.size;simp;omega) (by intro q hq;cases hq;exact hg1)⟩
    case measure=>simp[RowKit.intOf];omega
   ·have hd2:((((⟨s.toArray⟩:ByteArray)[k]'hlt').toNat:Int) ==46)=false:=by
     have e:((⟨s.toArray⟩:ByteArray)[k]'hlt').toNat=(s[k]'hlt).toNat:=by rfl
     rw[e];simp;omega
    have hn5:n<=5000:=by omega
    obtain⟨L,hlast,hLl,hnext⟩:∃L:Str,wr.cell? ⟨g,n,none⟩=some (.string ⟨L.toArray⟩)/\L.length<=5000/\cZ s (k+1)=(cZ s k).set n (L++[s[k]'hlt]):=by
     refine⟨(cZ s k).getD n [],?_,?_,?_⟩
     ·rw[hown.cellAt n (by omega),KF,K9 (by omega),Ke,K9 (by omega)];rfl
     ·have:=mI s k hk ((cZ s k).getD n []) (by rw[Ke,K9 (by omega)];exact Me _);omega
     ·rw[iV s k hlt];unfold fR;rw[Kb (fun e=>hd (by rw[e];rfl)),hn];rfl
    have hrun:∀wx,(Instr.slice 9 (.string ⟨s.toArray⟩) (some (.int .i64 (k:Int))) (some (.int .i64 ((k:Int)+1))) none).run Tryz.prog wx=.ok (.string ⟨#[s[k]'hlt]⟩) wx:=fun wx=>by
     rw[run_slice_string wx 9 _ .i64 .i64 _ _ Tryz.underlying9 (by omega) (by omega) (by show(k:Int)+1<=(s.toArray.size:Int);simp;omega),ByteArray.extract_mk];have e1:((k:Int)+1).toNat-((k:Int)).toNat=1:=by omega
     rw[e1,Kh,M1 hlt];rfl
    have hadd:∀wx,(Op.stringOp .add (⟨L.toArray⟩:ByteArray) (⟨#[s[k]'hlt]⟩:ByteArray)).run Tryz.prog wx=.ok (.string ⟨(L++[s[k]'hlt]).toArray⟩) wx:=fun wx=>
     run_string_add_lists wx L [s[k]'hlt] (by omega) (by simp)
    go_wp2_with fail
    all_goals (try (exfalso;rename_i hq _;rw[hd2]at hq;cases hq))
    go_region
    all_goals go_wp2
    all_goals go_roundw
    case rel=>
     refine⟨k+1,by omega,by go_num,?_,(hnx.setCell hg1 _).drew⟩;rw[hnext,List.length_set,hn,List.map_set];exact(hown.stored n _).1.drew
    case measure=>simp[RowKit.intOf];omega
  ·have hkl:k=s.length:=by omega
   subst hkl
   go_wp2_with fail
   go_ret
   exact⟨_,rfl,by rw[hn];exact hown,hnx⟩
theorem kW:∀(s:Str)(acc:List Str)(p:Str),s.foldl fR (acc++[p])=acc++(match splitB 46 s with|[]=>[p]|q::qs=>(p++q)::qs)
 |[],acc,p=>by simp[splitB]
 |b::r,acc,p=>by
  rw[MY];by_cases hb:b=46
  ·subst hb;have e1:fR (acc++[p]) 46=(acc++[p])++[[]]:=by unfold fR;rw[Kf rfl]
   rw[e1,kW r (acc++[p]) []];have hne:=oG 46 r;have e2:splitB 46 (46::r)=[]::splitB 46 r:=by rw[splitB,Kf rfl]
   rw[e2]
   cases e:splitB 46 r with|nil=>exact absurd e hne|cons q qs=>simp
  ·have e1:fR (acc++[p]) b=acc++[p++[b]]:=by unfold fR;rw[Kb hb];simp
   rw[e1,kW r acc (p++[b])];have hne:=oG 46 r;have e2:splitB 46 (b::r)=match splitB 46 r with|[]=>[[b]]|p::ps=>(b::p)::ps:=by rw[splitB,Kb hb];rfl
   rw[e2]
   cases e:splitB 46 r with|nil=>exact absurd e hne|cons q qs=>simp
theorem yj(s:Str):cZ s s.length=splitB 46 s:=by
 unfold cZ;rw[KW];have:=kW s [] [];simp only[Le]at this;rw[this]
 cases e:splitB 46 s with|nil=>exact absurd e (oG 46 s)|cons q qs=>rfl
variable [Tabs]
theorem so:ag Tryz.prog 104 (p1 .str fun s=>⟨some (s.length<=4096),none,.lst .str (splitB 46 s) none,[]⟩):=by
 refine aL (aB.mk' Tryz.func104 (by kernel_rfl)) fun s _ ho=>?_;have hlen:s.length<=4096:=ho _ rfl;intro w pub e vs hp ht hv hs hd hi;obtain⟨v,rfl,h1⟩:=VL.one_inv hv;obtain⟨rfl,hl⟩:=h1.str_inv;refine(E2 s w hlen).mono ?_;rintro en w' ⟨v,rfl,hown,hb⟩;have hpl:=mH s s.length (Kn _);have hmem:=mI s s.length (Kn _);rw[yj]at hown hpl hmem;generalize splitB 46 s=xs at *
 rcases hown.2 with⟨_,h0⟩|⟨g,cap,cur,rfl,hg1,hg,hg2,hg3,hg4,hg5⟩
 ·omega
 have hw1:ab .str=1:=rfl;refine⟨fun b o=>pub b o∨(w.heap.size<=b/\∃v,w'.cell? ⟨b,o,none⟩=some v),e,?_⟩;refine And.intro (fun b pv u h=>by cases h) (And.intro ?_ ?_)
 ·refine oY (vs:=xs.map vS) hg (by rw[hw1];exact hg5) ⟨?_,fun j c u hc hu=>?_⟩ hg2 hg3 (fun i hi=>.inr ⟨hg1,?_⟩) (fun id hid=>by cases hid)
  ·rw[aV,hw1];simp
  ·have e1:flat .str xs=xs.map AV.str:=by unfold flat;rw[Ms];rfl
   rw[e1,KF,KB]at hc;rw[KF,KB]at hu;obtain⟨x,hx,rfl⟩:=hc;obtain⟨y,hy,rfl⟩:=hu;rw[hx]at hy;cases hy;exact .str x (by have:=hmem x (KA hx);unfold b6;omega)
  ·have:=hown.cellAt i hi;rw[this];exact⟨_,K9 (by rw[hown.1];exact hi)⟩
 ·exact{
   os:=hb.os
   tape:=hb.tape
   output:=hb.output
   size:=hb.size
   block:=fun b h _=>hb.block b h
   cell:=fun b o h _=>aj (hb.block b h) o
   kind:=fun b h _=>⟨aW (hb.block b h),fun o=>aN (hb.block b h) o⟩
   ext:=⟨fun _ c h=>⟨c,h,CLe.refl c⟩,fun _ _ h=>.inl h,fun b o h=>by obtain⟨v,hv⟩:=hp b o h;exact aj (hb.block b (aQ hv)) o⟩
   fresh:=fun b o h=>h.elim .inl (fun k=>.inr (.inl k.1))
   ok:=fun b o h=>by
    rcases h with h|h
    ·obtain⟨v,hv⟩:=hp b o h;exact⟨v,(aj (hb.block b (aQ hv)) o).trans hv⟩
    ·exact h.2
   slots:=fun id o h=>by simp[cd,aR,aJ]at h
   dom:=fun id _=>hd id rfl
   inj:=fun i j c d b o h=>by rw[hd i rfl]at h;cases h}
end Go.AL.Seat
end
section
namespace Go.Proofs
open Go.Shelf
def Tryz.sortf_ren:Go.Shelf.Ren:=⟨fun|6=>58|15=>100|14=>99|28=>154|29=>155|20=>146|21=>147|22=>148|23=>149|24=>150|25=>151|26=>152|27=>153|46=>206|47=>207|48=>208|49=>209|50=>210|57=>253|n=>n,fun|22=>31|24=>77|25=>89|3=>3|39=>161|0=>0|53=>210|55=>212|4=>4|46=>203|45=>202|50=>207|5=>5|9=>9|66=>247|70=>251|76=>265|77=>197|n=>n,fun|n=>n⟩
theorem Tryz.sortf:Go.Proofs.SlLaysF0.n6 Tryz.prog Tryz.sortf_ren:={
 mixed:=by kernel_rfl
 f6:=⟨Tryz.f58.name,by decide,Xt Tryz.func58⟩
 f14:=⟨Tryz.f99.name,by decide,Xt Tryz.func99⟩
 f15:=Xt Tryz.func100
 f20:=⟨Tryz.f146.name,by decide,Xt Tryz.func146⟩
 f21:=⟨Tryz.f147.name,by decide,Xt Tryz.func147⟩
 f22:=⟨Tryz.f148.name,by decide,Xt Tryz.func148⟩
 f23:=⟨Tryz.f149.name,by decide,Xt Tryz.func149⟩
 f24:=⟨Tryz.f150.name,by decide,Xt Tryz.func150⟩
 f25:=⟨Tryz.f151.name,by decide,Xt Tryz.func151⟩
 f26:=⟨Tryz.f152.name,by decide,Xt Tryz.func152⟩
 f27:=⟨Tryz.f153.name,by decide,Xt Tryz.func153⟩
 f28:=Xt Tryz.func154
 f29:=Xt Tryz.func155
 f46:=⟨Tryz.f206.name,by decide,Xt Tryz.func206⟩
 f47:=Xt Tryz.func207
 f48:=Xt Tryz.func208
 f49:=⟨Tryz.f209.name,by decide,Xt Tryz.func209⟩
 f50:=⟨Tryz.f210.name,by decide,Xt Tryz.func210⟩
 f57:=⟨Tryz.f253.name,by decide,Xt Tryz.func253⟩
 t0:=Tryz.underlying0
 a0:=Tryz.isAgg0
 z0:=Tryz.sizeOf0
 v0:=Tryz.zeroValue0
 t3:=Tryz.underlying3
 a3:=Tryz.isAgg3
 z3:=Tryz.sizeOf3
 v3:=Tryz.zeroValue3
 t4:=Tryz.underlying4
 a4:=Tryz.isAgg4
 z4:=Tryz.sizeOf4
 v4:=Tryz.zeroValue4
 t5:=Tryz.underlying5
 a5:=Tryz.isAgg5
 z5:=Tryz.sizeOf5
 v5:=Tryz.zeroValue5
 t9:=Tryz.underlying9
 a9:=Tryz.isAgg9
 z9:=Tryz.sizeOf9
 v9:=Tryz.zeroValue9
 t22:=Tryz.underlying31
 a22:=Tryz.isAgg31
 z22:=Tryz.sizeOf31
 v22:=Tryz.zeroValue31
 t25:=Tryz.underlying89
 a25:=Tryz.isAgg89
 z25:=Tryz.sizeOf89
 v25:=Tryz.zeroValue89
 t39:=Tryz.underlying161
 a39:=Tryz.isAgg161
 z39:=Tryz.sizeOf161
 v39:=Tryz.zeroValue161
 t45:=Tryz.underlying202
 a45:=Tryz.isAgg202
 z45:=Tryz.sizeOf202
 v45:=Tryz.zeroValue202
 t46:=Tryz.underlying203
 a46:=Tryz.isAgg203
 z46:=Tryz.sizeOf203
 v46:=Tryz.zeroValue203
 t50:=Tryz.underlying207
 a50:=Tryz.isAgg207
 z50:=Tryz.sizeOf207
 v50:=Tryz.zeroValue207
 t53:=Tryz.underlying210
 a53:=Tryz.isAgg210
 z53:=Tryz.sizeOf210
 v53:=Tryz.zeroValue210
 t55:=Tryz.underlying212
 a55:=Tryz.isAgg212
 z55:=Tryz.sizeOf212
 v55:=Tryz.zeroValue212
 t66:=Tryz.underlying247
 a66:=Tryz.isAgg247
 z66:=Tryz.sizeOf247
 v66:=Tryz.zeroValue247
 t70:=Tryz.underlying251
 a70:=Tryz.isAgg251
 z70:=Tryz.sizeOf251
 v70:=Tryz.zeroValue251
 t76:=Tryz.underlying265
 a76:=Tryz.isAgg265
 z76:=Tryz.sizeOf265
 v76:=Tryz.zeroValue265
 t77:=Tryz.underlying197
 a77:=Tryz.isAgg197
 z77:=Tryz.sizeOf197
 v77:=Tryz.zeroValue197}
end Go.Proofs
end
section
namespace Go.Proofs
open Go.RowKit Go.Shelf Go.AL Go.Sort Go.Pd Go.Lib
set_option maxHeartbeats 4000000
theorem Tryz.isNaN60(x:ByteArray)(w:World):Calls Tryz.prog 60 #[.string x] w fun e w'=>e=.returned (.bool false)/\w'=w:=by
 go_enter Tryz.func60,Tryz.ntmps60
 go_wp2
 go_ret
 exact⟨by simp,rfl⟩
theorem nu(t:TypeId)(a b:ByteArray):binOp .gtr t (.string a) (.string b)=pure (.bool !(Op.bytesLess a.toList b.toList||a.toList ==b.toList)):=by simp[binOp,Op.stringOp]
attribute [local go_sem] nu
theorem iW:∀a b:List UInt8,compareBytes a b=if Op.bytesLess a b=true then -1 else if(!(Op.bytesLess a b||a ==b))=true then 1 else 0
 |[],[]=>by simp[compareBytes,Op.bytesLess]
 |[],_::_=>by simp[compareBytes,Op.bytesLess]
 |_::_,[]=>by simp[compareBytes,Op.bytesLess]
 |a::r,b::s=>by
  simp only[compareBytes,Op.bytesLess];by_cases h1:a<b
  ·simp[h1]
  ·by_cases h2:b<a
   ·have:a≠b:=fun e=>by subst e;exact h1 h2
    simp[h1,h2,this]
   ·have:a=b:=NN (Nd.1 h2) (Nd.1 h1);subst this;simp only[h1,KP,iW r s];simp
theorem Tryz.cmp31(x y:ByteArray)(w:World):Calls Tryz.prog 31 #[.string x,.string y] w fun e w'=>e=.returned (.int .i64 (compareBytes x.data.toList y.data.toList))/\w'=w:=by
 have e0:=iW x.toList y.toList;rw[Lib.toList_data,Lib.toList_data]at e0
 go_enter Tryz.func31,Tryz.ntmps31
 go_wp2_with (go_at_call 60;refine(Tryz.isNaN60 _ _).mono ?_;rintro e w' ⟨rfl,rfl⟩)
 all_goals (go_ret;refine⟨?_,rfl⟩;simp_all [Lib.toList_data])
theorem Tryz.or30(b o:Nat)(x y r:Int)(w:World)(hr:(if x=0 then y else x)=r)(h0:w.cell? ⟨b,o,none⟩=some (.int .i64 x))(h1:w.cell? ⟨b,o+1,none⟩=some (.int .i64 y)) :
  Calls Tryz.prog 30 #[.slice (some ⟨b,o,none⟩) 2 2] w fun e w'=>e=.returned (.int .i64 r)/\w'=w:=by
 subst hr
 go_enter Tryz.func30,Tryz.ntmps30
 go_wp2
 go_rounds 3
 all_goals (go_ret;simp_all)
theorem K5(w:World)(A B C:Obj):(((w.alloc A).alloc B).alloc C).drew=grow (w.drewN 1) #[A,B,C]:=by rw[alloc_eq_grow,alloc_eq_grow,alloc_eq_grow,grow_grow,grow_grow];rfl
theorem Tryz.cmp29(a1 a2 b1 b2:ByteArray)(r:Int)(hr0:(if compareBytes a1.data.toList b1.data.toList=0 then compareBytes a2.data.toList b2.data.toList else compareBytes a1.data.toList b1.data.toList)=r)(w:World) :
  Calls Tryz.prog 29 #[.agg #[.string a1,.string a2],.agg #[.string b1,.string b2]] w fun e w'=>e=.returned (.int .i64 r)/\∃q os',w'=grow (w.drewN q) os':=by
 go_enter Tryz.func29,Tryz.ntmps29
 go_wp2
 obtain⟨W,hW⟩:∃W,(w.alloc (.cells #[.string a1,.string a2] 77)).alloc (.cells #[.string b1,.string b2] 77)=W:=⟨_,rfl⟩;have h1:W.cell? ⟨w.heap.size,0,none⟩=some (.string a1):=by rw[<-hW];simp[go_sem]
 have h2:W.cell? ⟨w.heap.size,1,none⟩=some (.string a2):=by rw[<-hW];simp[go_sem]
 have h3:W.cell? ⟨w.heap.size+1,0,none⟩=some (.string b1):=by rw[<-hW];simp[go_sem]
 have h4:W.cell? ⟨w.heap.size+1,1,none⟩=some (.string b2):=by rw[<-hW];simp[go_sem]
 rw[hW];obtain⟨u,hu⟩:∃u,compareBytes a1.data.toList b1.data.toList=u:=⟨_,rfl⟩;obtain⟨v,hv⟩:=(⟨_,rfl⟩:∃v,compareBytes a2.data.toList b2.data.toList=v);have hr:(if u=0 then v else u)=r:=by rw[<-hu,<-hv];exact hr0
 clear hr0
 go_region_held3 (fun w'=>w'.cell? ⟨w.heap.size,0,none⟩=some (.string a1)/\w'.cell? ⟨w.heap.size,1,none⟩=some (.string a2)/\w'.cell? ⟨w.heap.size+1,0,none⟩=some (.string b1)/\w'.cell? ⟨w.heap.size+1,1,none⟩=some (.string b2)) (go_keep)
  (first|(go_at_call 31;refine(Tryz.cmp31 _ _ _).mono ?_;rintro e w' ⟨rfl,rfl⟩)|(go_at_call 30;refine(Tryz.or30 W.heap.size 0 u v r _ hr (by show(W.alloc _).cell? ⟨W.heap.size,0,none⟩=_;simp[go_sem]) (by show(W.alloc _).cell? ⟨W.heap.size,0+1,none⟩=_;simp[go_sem])).mono ?_;rintro e w' ⟨rfl,rfl⟩))
 go_wp2
 go_ret
 subst hW;exact⟨rfl,1,_,K5 _ _ _ _⟩
def cfU(x y:Nam):Int:=if compareBytes x.pkg y.pkg=0 then compareBytes x.name y.name else compareBytes x.pkg y.pkg
def mc(x:Nam):List Value:=[.string ⟨x.pkg.toArray⟩,.string ⟨x.name.toArray⟩]
theorem Tryz.cmpLays(blk off size:Nat)(w:World):CmpLays Tryz.prog 29 #[] mc 2 cfU blk off size w:=fun m os dk _ x y=>
 Tryz.cmp29 ⟨x.pkg.toArray⟩ ⟨x.name.toArray⟩ ⟨y.pkg.toArray⟩ ⟨y.name.toArray⟩ _ rfl _
theorem iX:∀{a b:List UInt8},compareBytes a b=0->a=b
 |[],[],_=>rfl
 |[],_::_,h=>by simp[compareBytes]at h
 |_::_,[],h=>by simp[compareBytes]at h
 |a::r,b::s,h=>by
  simp only[compareBytes]at h;by_cases h1:a<b
  ·simp[h1]at h
  ·by_cases h2:b<a
   ·simp[h1,h2]at h
   ·have:a=b:=NN (Nd.1 h2) (Nd.1 h1);subst this;simp only[h1,KP]at h;rw[iX h]
theorem nv(a:List UInt8):compareBytes a a=0:=by
 induction a with
 |nil=>rfl
 |cons x r ih=>simp[compareBytes,LR,ih]
variable [Tabs]
theorem nw(x y:Nam):ltOf cfU x y=ltU x y:=by
 unfold ltOf cfU ltU;by_cases h:compareBytes x.pkg y.pkg=0
 ·have e:=iX h;rw[Kf h,gN,e];simp[List.lt_irrefl]
 ·have e:x.pkg≠y.pkg:=fun q=>h (by rw[q];exact nv _);rw[Kb h,gN];simp[e]
theorem swoU:SWO (ltOf cfU):=by
 refine⟨fun x=>by rw[nw,iU],fun x y z h k=>?_,fun x y z h k=>?_⟩
 ·rw[nw]at *;exact mE h k
 ·rw[nw]at *
  rcases LV (ltU x z)with q|q
  ·rcases lF x y with t|t|t
   ·rw[t]at h;cases h
   ·subst t;rw[q]at k;cases k
   ·rw[mE t q]at k;cases k
  ·exact q
end Go.Proofs
end
section
namespace Go.Proofs
open Go.RowKit Go.Shelf Go.AL Go.Maps Go.ChangeMaps
variable [Tabs]
attribute [local go_sem] Oper.semAt_some
set_option maxHeartbeats 4000000
def oH(x:Nam):Value:=.agg #[.string ⟨x.pkg.toArray⟩,.string ⟨x.name.toArray⟩]
structure KeysU(es:Array MapEntry)(clock:Nat)(ks:List Nam):Prop where
 size:es.size=ks.length
 key:∀(i:Nat)(e:MapEntry)(k:Nam),es[i]?=some e->ks[i]?=some k->e.key=oH k
 idx:∀(i:Nat)(e:MapEntry),es[i]?=some e->e.born=i
 top:clock=es.size
theorem KeysU.old{es:Array MapEntry}{clock:Nat}{ks:List Nam}(h:KeysU es clock ks):∀x∈es.toList,x.born<clock:=fun x hx=>by
 obtain⟨i,hi,rfl⟩:=MV hx;have hi':i<es.size:=by simpa using hi
 have:=h.idx i es[i] (KE hi');rw[Nq,this,h.top];exact hi'
theorem KeysU.nodup{es:Array MapEntry}{clock:Nat}{ks:List Nam}(h:KeysU es clock ks):(es.toList.map (·.born)).Nodup:=by
 rw[LP,MI,Lw];intro i j hi hj hij e;have hi':i<es.size:=by simpa using hi
 have hj':j<es.size:=by simpa using hj
 have a:=h.idx i es[i] (KE hi');have b:=h.idx j es[j] (KE hj');simp only[Nq]at e;omega
def iY(ks:List Nam)(i:Nat):Nam:=ks.getD i default
def J3(bm r:Nat)(w:World):Nat:=
 match w.heap[bm]?,w.heap[r]? with
 |some (.map es _),some (.mapIter _ _ seen _)=>(leftOf es seen).size
 |_,_=>0
theorem KeysU.done{es:Array MapEntry}{clock:Nat}{ks:List Nam}(h:KeysU es clock ks){seen:Array Nat}(hn:seen.toList.Nodup)(hb:∀i∈seen.toList,i<ks.length)(h0:(leftOf es seen).size=0) :
  (seen.toList.map (iY ks)).Perm ks:=by
 have all:∀i,i<ks.length->i∈seen.toList:=fun i hi=>by
  have hi':i<es.size:=by rw[h.size];exact hi
  rcases LV (seen.contains i)with q|q
  ·simpa using q
  ·have hm:es[i]∈(leftOf es seen).toList:=by unfold leftOf;simp only[M0,L3];refine⟨by simp,?_⟩;rw[h.idx i es[i] (KE hi'),q];rfl
   rw[<-LJ]at h0;rw[Ln.1 h0]at hm;cases hm
 have hp:seen.toList.Perm (List.range ks.length):=
  (List.perm_ext_iff_of_nodup hn List.nodup_range).2 fun i=>⟨fun q=>LG.2 (hb i q),fun q=>all i (LG.1 q)⟩
 have e:(List.range ks.length).map (iY ks)=ks:=by
  apply List.ext_getElem
  ·simp
  ·intro i h1 h2;simp[iY,Ke,K9 h2]
 have:=hp.map (iY ks);rw[e]at this;exact this
structure StepU(bm r clock:Nat)(es:Array MapEntry)(seen:Array Nat)(w:World)(e:MapEntry)(w2:World):Prop where
 mem:e∈(leftOf es seen).toList
 it:w2.heap[r]?=some (.mapIter (some bm) clock (seen.push e.born) clock)
 grown:w.grownBy w2 (some r)
structure DoneU(es:Array MapEntry)(seen:Array Nat):Prop where
 none:(leftOf es seen).size=0
theorem lenU:∀(n:Nat)(l:List Nat),l.Nodup->(∀i∈l,i<n)->l.length<=n
 |0,l,_,h=>by
  cases l with|nil=>exact Kn _|cons a r=>have:=h a (by simp);omega
 |n+1,l,hn,h=>by
  have h1:=lenU n (l.erase n) (hn.erase n) (fun i hi=>by
   rw[hn.erase_eq_filter,L3]at hi;have:=h i hi.1;have h2:i≠n:=by simpa using hi.2
   omega)
  by_cases hm:n∈l
  ·rw[List.length_erase_of_mem hm]at h1;omega
  ·rw[List.erase_of_not_mem hm]at h1;omega
section
variable {F:Fence} {n:Nat} {P:Program} {ops:Array Oper} {Q:Exit->Act->World->Prop} {o:Oper} {rest:List Oper} {a:Act} (w:World)
theorem oI(hg:o.guard=none)(m:Operand)(t:TypeId)(hop:o.op=Op.range t m)(k e:TypeId)(ht:P.underlying t=some (.map k e))(b:Nat)(es:Array MapEntry)(clock:Nat)
 (hm:a.eval m=.map (some b))(hb:w.heap[b]?=some (.map es clock))
 (hK:wpListIn F n P ops Q rest (a.put o.dst (.pointer (some ⟨w.heap.size,0,none⟩))) (w.alloc (.mapIter (some b) clock #[] clock))) :
  wpListIn F n P ops Q (o::rest) a w:=by
 refine wpListIn_plain hg fun K' hK'=>?_;have hrun:=run_range_map (P:=P) w t k e b es clock ht hb;unfold Oper.wpIn;refine⟨?_,?_⟩
 ·simp[Oper.about,hop]
 ·rw[Oper.semAt_plain F _ _ (by rw[hop];intro c hc';cases hc')];simp[execOp,hop,hm,hrun,Result.andThen];exact hK' _ _ hK
theorem pJ(hg:o.guard=none)(it:Operand)(hop:o.op=Op.next it false)(r bm clock c0:Nat)(seen:Array Nat)(es:Array MapEntry)
 (hit:a.eval it=.pointer (some ⟨r,0,none⟩))(hr:w.heap[r]?=some (.mapIter (some bm) clock seen c0))(hb:w.heap[bm]?=some (.map es clock))(hold:∀x∈es.toList,x.born<clock)(hsc:clock<=c0)
 (hDone:DoneU es seen->wpListIn F n P ops Q rest (a.put o.dst (.tuple #[.bool false])) w)
 (hMore:∀(e:MapEntry)(w2:World),StepU bm r clock es seen w e w2->wpListIn F n P ops Q rest (a.put o.dst (.tuple #[.bool true,e.key,e.val])) w2) :
  wpListIn F n P ops Q (o::rest) a w:=by
 refine wpListIn_plain hg fun K' hK'=>?_;unfold Oper.wpIn;refine⟨by simp[Oper.about,hop],?_⟩;rw[Oper.semAt_plain F _ _ (by rw[hop];intro c hc';cases hc')];rcases run_next_at (P:=P) w o.type r bm clock c0 seen es clock hr hb hold hsc with⟨h0,hrun⟩|⟨e,he,w1,hw1,hrun⟩
 ·simp[execOp,hop,hit,hrun,Result.andThen];exact hK' _ _ (hDone ⟨h0⟩)
 ·simp[execOp,hop,hit,hrun,Result.andThen]
  have hrl:r<w.heap.size:=by
   rcases Kl r w.heap.size with h|h
   ·exact h
   ·rw[KO h]at hr;cases hr
  have hh:w1.heap=w.heap:=by rcases hw1 with rfl|rfl<;>rfl
  refine hK' _ _ (hMore e _ ⟨he,?_,?_⟩)
  ·show(w1.heap.setIfInBounds r _)[r]?=_;rw[hh];simp[hrl]
  ·refine⟨?_,?_,?_,?_,fun k hk hne=>?_⟩
   ·rcases hw1 with rfl|rfl<;>rfl
   ·rcases hw1 with rfl|rfl<;>rfl
   ·rcases hw1 with rfl|rfl<;>rfl
   ·show _<=(w1.heap.setIfInBounds r _).size;rw[hh];simp
   ·show(w1.heap.setIfInBounds r _)[k]?=_;rw[hh,Nh (fun e=>hne (by rw[e]))]
end
theorem Tryz.ukeys1(F:Fence)(n:Nat)(h59:F.fn 59)(hro:F.round=none)(hn:1<=n)(l Bm off bm:Nat)(es:Array MapEntry)(clock:Nat)(ks:List Nam)(hK:KeysU es clock ks)(J:List Nam->World->Prop)
 (hY:∀pre x W,J pre W->pre.length<ks.length->YieldAt F (n-1) Tryz.prog l #[oH x] W fun e W'=>e=.returned (.bool true)/\J (pre++[x]) W'/\KeepsWalks W W')
 (W:World)(hJ:AbidesFrom W.heap.size J)(hm:W.cell? ⟨Bm,off,none⟩=some (.map (some bm)))(hb:W.heap[bm]?=some (.map es clock))(h0:J [] W) :
  CallsIn F n Tryz.prog 59 #[.func (.yield l) #[] #[],.pointer (some ⟨Bm,off,none⟩)] W fun e W'=>(∃v,e=.returned v)/\∃ss:List Nam,ss.Perm ks/\J ss W':=by
 have hbm:bm<W.heap.size:=by
  rcases Kl bm W.heap.size with h|h
  ·exact h
  ·rw[KO h]at hb;cases hb
 refine callsIn_of_wp Tryz.func59 rfl h59 ?_ hro;simp only[Tryz.ntmps59,LN,Kq,KT,Nat.reduceAdd,Nat.reduceSub,LB,LC,LU,LM,Le,KU]
 gi_wp2_with (first
  |(gi_at_range;refine oI _ rfl _ 80 rfl 77 3 Tryz.underlying80 bm es clock rfl hb ?_)
  |gi_in)
 go_frame
 gi_loopw [3] (fun _ wr=>∃(seen:Array Nat)(c0:Nat),wr.heap[W.heap.size]?=some (.mapIter (some bm) clock seen c0)/\clock<=c0/\wr.heap[bm]?=some (.map es clock)/\seen.toList.Nodup/\(∀i∈seen.toList,i<ks.length)/\J (seen.toList.map (iY ks)) wr)
  (fun _ wr=>J3 bm W.heap.size wr)
 case atStart=>
  refine⟨#[],clock,heap_alloc_new _ _,Kn _,(heap_alloc_old _ _ hbm).trans hb,NH,by simp,hJ [] W _ none h0 (Nx W _ none) (fun r e=>by cases e)⟩
 case round=>
  obtain⟨seen,c0,hit,hc0,hbw,hnd,hlt,hJs⟩:=hrel
  gi_wp2_with (first
   |(gi_at_next;refine pJ _ rfl _ rfl W.heap.size bm clock c0 seen es rfl hit hbw hK.old hc0 ?_ ?_)
   |gi_in)
  ·
   intro hl0
   gi_wp2
   go_end0
   exact⟨⟨_,rfl⟩,_,hK.done hnd hlt hl0.none,hJs⟩
  ·
   intro e w2 hs;have hes:e∈es.toList:=by have:=hs.mem;unfold leftOf at this;simp only[M0,L3]at this;exact this.1
   have hns:e.born∉seen.toList:=by have:=hs.mem;unfold leftOf at this;simp only[M0,L3]at this;simpa using this.2
   obtain⟨i,hi,hei⟩:=MV hes;have hi':i<es.size:=by simpa using hi
   have hei':es[i]?=some e:=by rw[<-hei];simp[hi']
   have hbi:e.born=i:=hK.idx i e hei';have hik:i<ks.length:=by rw[<-hK.size];exact hi'
   have hpk:ks[i]?=some (iY ks i):=by simp[iY,Ke,K9 hik]
   have hkey:e.key=oH (iY ks i):=hK.key i e _ hei' hpk
   have hm2:w2.heap[bm]?=some (.map es clock):=by
    rw[hs.grown.block bm ?_ ?_];exact hbw
    ·rcases Kl bm wr.heap.size with h|h
     ·exact h
     ·rw[KO h]at hbw;cases hbw
    ·intro e;cases e;omega
   have hen:=run_entry_at (P:=Tryz.prog) w2 W.heap.size bm clock seen es clock e hs.it hm2 hes hK.nodup
   have hlen:(seen.toList.map (iY ks)).length<ks.length:=by
    have:=lenU ks.length (i::seen.toList) (MD.2 ⟨by rw[<-hbi];exact hns,hnd⟩) (fun j hj=>by
     rcases Ks.1 hj with rfl|hj
     ·exact hik
     ·exact hlt j hj)
    rw[Lr];rw[Kq]at this;exact this
   have hJ2:J (seen.toList.map (iY ks)) w2:=hJ _ wr w2 (some W.heap.size) hJs hs.grown (fun r e=>by cases e;exact⟨Kn _,_,hit,rfl⟩);have hJ3:J (seen.toList.map (iY ks)) (w2.alloc (.cells #[.string ⟨(iY ks i).pkg.toArray⟩,.string ⟨(iY ks i).name.toArray⟩] 77)):=hJ _ w2 _ none hJ2 (Nx w2 _ none) (fun r e=>by cases e);obtain⟨fn,tmps,assign,body,hy,hR⟩:=hY _ (iY ks i) _ hJ3 hlen;have hi2:=hs.it;have hmem:=hs.mem;clear hs hJ2 hJ3;rw[hkey]at hen⊢;unfold oH at hen hy⊢
   gi_wp2
   refine hR.mono ?_;rintro e' W3 ⟨rfl,hJ4,hk3⟩
   gi_wp2
   have q1:W3.heap[W.heap.size]?=some (.mapIter (some bm) clock (seen.push e.born) clock):=hk3.same _ _ ((heap_alloc_old _ _ (KG.1 hi2).1).trans hi2) rfl;have q2:W3.heap[bm]?=some (.map es clock):=hk3.same _ _ ((heap_alloc_old _ _ (KG.1 hm2).1).trans hm2) rfl
   go_roundw
   case rel=>
    refine⟨_,clock,q1,Kn _,q2,?_,?_,?_⟩
    ·rw[NO];exact Mo.2 ⟨hnd,by simp,fun a ha b hb e=>by simp at hb;subst hb;exact hns (e ▸ ha)⟩
    ·intro j hj;rw[NO,KZ,L2]at hj;rcases hj with hj|rfl
     ·exact hlt j hj
     ·omega
    ·rw[NO,M6,List.map_singleton,hbi];exact hJ4
   case measure=>
    unfold J3;rw[q1,q2,hit,hbw];exact ub hmem
theorem Tryz.ukeys(F:Fence)(n:Nat)(h59:F.fn 59)(hro:F.round=none)(hn:1<=n)(Bm off bm:Nat)(es:Array MapEntry)(clock:Nat)(ks:List Nam)(hK:KeysU es clock ks)(w:World)(hm:w.cell? ⟨Bm,off,none⟩=some (.map (some bm)))(hb:w.heap[bm]?=some (.map es clock)) :
  SeqGives F n Tryz.prog 59 #[.pointer (some ⟨Bm,off,none⟩)] oH (fun ss=>ss.Perm ks) ks.length w:=fun l J W hW hJ hY h0=>by
 have hbm:bm<w.heap.size:=by
  rcases Kl bm w.heap.size with h|h
  ·exact h
  ·rw[KO h]at hb;cases hb
 exact Tryz.ukeys1 F n h59 hro hn l Bm off bm es clock ks hK J hY W hJ ((hW.cell (p:=⟨Bm,off,none⟩) (aQ hm)).trans hm) ((hW.block bm hbm).trans hb) h0
end Go.Proofs
end
section
namespace Go.Proofs
open Go.RowKit Go.Shelf Go.AL Go.Maps
variable [Tabs]
attribute [local go_sem] Oper.semAt_some
set_option maxHeartbeats 4000000
def jT(x:Nam):List Value:=[.string ⟨x.pkg.toArray⟩,.string ⟨x.name.toArray⟩]
def iZ(ss:List Nam):List Value:=ss.flatMap jT
theorem E3(ss:List Nam)(x:Nam):iZ (ss++[x])=iZ ss++jT x:=by simp[iZ]
theorem w8(w:World)(x y:Value)(t:TypeId):∀j u,[x,y][j]?=some u->(w.alloc (.cells #[x,y] t)).cell? ((⟨w.heap.size,0,none⟩:Addr).add j)=some u:=by
 intro j u hj;have hn:(w.alloc (.cells #[x,y] t)).heap[w.heap.size]?=some (.cells #[x,y] t (0,0)):=World.alloc_heap_new w _
 match j,hj with
 |0,hj=>cases hj;show(w.alloc _).cell? ⟨w.heap.size,0,none⟩=_;rw[ak hn];rfl
 |1,hj=>cases hj;show(w.alloc _).cell? ⟨w.heap.size,1,none⟩=_;rw[ak hn];rfl
 |j+2,hj=>simp at hj
theorem Tryz.infoU:(Tryz.prog.info? 77).map (fun i=>(i.zero,i.size,i.bytes))=some (some (.agg #[.string ⟨#[]⟩,.string ⟨#[]⟩]),2,32):=by kernel_rfl
def oJ:Code:=(Code.region 2 #[{dst:=some 5,op:=Op.alloc 77,type:=0,pos:= "iter.go:51",after:=#[],guard:=none},{dst:=none,op:=Op.store 77 (Operand.tmp 5) (Operand.tmp 7),type:=0,pos:= "iter.go:51",after:=#[{on:=0,ground:=Ground.data},{on:=0,ground:=Ground.phase}],guard:=none}] false)
def w9:Code:=(Code.block 1 (Code.region 3 #[{dst:=some 8,op:=Op.load 31 (Operand.tmp 2),type:=31,pos:= "iter.go:52",after:=#[],guard:=none},{dst:=some 9,op:=Op.load 77 (Operand.tmp 5),type:=77,pos:= "iter.go:52",after:=#[],guard:=none},{dst:=some 10,op:=Op.buildSlice 31 1 #[(0,Operand.tmp 9)],type:=31,pos:= "iter.go:52",after:=#[{on:=1,ground:=Ground.data}],guard:=none},{dst:=some 11,op:=Op.call {callee:=Callee.builtin Builtin.append,args:=#[Operand.tmp 8,Operand.tmp 10],argTypes:=#[31,31]},type:=31,pos:= "iter.go:52",after:=#[{on:=0,ground:=Ground.data},{on:=2,ground:=Ground.data}],guard:=none},{dst:=none,op:=Op.store 31 (Operand.tmp 2) (Operand.tmp 11),type:=0,pos:= "iter.go:52",after:=#[{on:=3,ground:=Ground.data},{on:=3,ground:=Ground.chain},{on:=0,ground:=Ground.phase},{on:=1,ground:=Ground.phase},{on:=2,ground:=Ground.phase},{on:=3,ground:=Ground.phase}],guard:=none}] false))
def gR(fn:FuncId)(sv:Value)(Bs D:Nat)(st:LoopState)(pend:Option Code):Loop:=
 {state:=st,pending:=pend,fn,tmps:=#[.slice none 0 0,sv,.pointer (some ⟨Bs,0,none⟩),undef,.slice none 0 0,undef,sv,undef,undef,undef,undef,undef,undef],params:=#[7],assign:=oJ,body:=w9,defers:=D}
structure UApAt(w0:World)(fn:FuncId)(sv:Value)(Bs l D:Nat)(ss:List Nam)(W:World):Prop where
 box:∃v,W.heap[Bs]?=some (.cells #[v] 31 (0,0))/\W.ownsRow w0.heap.size 77 2 v ss.length (iZ ss)/\(v=.slice none 0 0↔ss=[])
 L:W.heap[l]?=some (.loop (gR fn sv Bs D .ready none))
 K:W.heap[D]?=some (.deferred (some []))
 below:Below w0.heap.size w0 W
theorem B3(w0:World)(fn:FuncId)(sv:Value)(Bs l D B:Nat)(hB:w0.heap.size<=B):AbidesFrom B (UApAt w0 fn sv Bs l D):=fun s W W' row h hg hrow=>by
 have hrow':∀r,row=some r->∃o:Obj,W.heap[r]?=some o/\o.isWalk=true:=fun r e=>(hrow r e).2;obtain⟨v,hv,hr,hn⟩:=h.box
 exact⟨⟨v,(grownBy_keeps hg hrow' hv rfl).trans hv,ownsRow_abides_a hr hg hrow',hn⟩,(grownBy_keeps hg hrow' h.L rfl).trans h.L,(grownBy_keeps hg hrow' h.K rfl).trans h.K,
  h.below.grown hg h.below.size (fun k e=>Ld hB (hrow k e).1)⟩
theorem Tryz.uapYield(F:Fence)(m:Nat)(w0:World)(fn:FuncId)(hfn:F.fn fn)(sv:Value)(Bs l D:Nat)(hBl:Bs≠l)(hDl:D≠l)(hDB:D≠Bs)(h0B:w0.heap.size<=Bs)(h0l:w0.heap.size<=l)
 (N:Nat)(hN:N<=maxLen)(hNb:N *32<=140737488355328)(ss:List Nam)(x:Nam)(W:World)(h:UApAt w0 fn sv Bs l D ss W)(hlen:ss.length<N) :
  YieldAt F m Tryz.prog l #[oH x] W fun e W'=>e=.returned (.bool true)/\UApAt w0 fn sv Bs l D (ss++[x]) W'/\KeepsWalks W W':=by
 have hne:(31:Nat)≠77:=by decide
 obtain⟨i0,hi,hz0,hz1,hz2⟩:=info_parts Tryz.infoU;refine⟨fn,#[.slice none 0 0,sv,.pointer (some ⟨Bs,0,none⟩),undef,.slice none 0 0,undef,sv,oH x,undef,undef,undef,undef,undef],oJ,w9,by simpa[gR]using run_yield (P:=Tryz.prog) (args:=#[oH x]) h.L rfl,roundIn_of_wpIn hfn ?_⟩;obtain⟨Wa,hWa⟩:∃Wa,W.alloc (.cells #[.string ⟨x.pkg.toArray⟩,.string ⟨x.name.toArray⟩] 77)=Wa:=⟨_,rfl⟩;have hga:W.grownBy Wa none:=by rw[<-hWa];exact Nx _ _ none
 have hka:KeepsWalks W Wa:=by rw[<-hWa];exact KeepsWalks.alloc _ _
 have hL:Wa.heap[l]?=some (.loop (gR fn sv Bs D .ready none)):=(hga.block l (KG.1 h.L).1 (by simp)).trans h.L;have hK:Wa.heap[D]?=some (.deferred (some [])):=(hga.block D (KG.1 h.K).1 (by simp)).trans h.K;have h5:Wa.heap[W.heap.size]?=some (.cells #[.string ⟨x.pkg.toArray⟩,.string ⟨x.name.toArray⟩] 77 (0,0)):=by rw[<-hWa];exact World.alloc_heap_new _ _
 have hbw:Below w0.heap.size w0 Wa:=h.below.grown hga h.below.size (fun k e=>by cases e);obtain⟨v,hv0,hrow0,_⟩:=h.box;have hv:Wa.heap[Bs]?=some (.cells #[v] 31 (0,0)):=(hga.block Bs (KG.1 hv0).1 (by simp)).trans hv0;have hrow:Wa.ownsRow w0.heap.size 77 2 v ss.length (iZ ss):=hrow0.kept hga (Md _);have hlW:l<W.heap.size:=(KG.1 h.L).1;have hl:l<Wa.heap.size:=(KG.1 hL).1;have hbr:=run_beginRound (P:=Tryz.prog) hL rfl;obtain⟨W2,hW2⟩:∃W2,Wa.putObj l (.loop {gR fn sv Bs D .ready none with state:=.busy})=W2:=⟨_,rfl⟩;rw[hW2]at hbr;have hg2:Wa.grownBy W2 (some l):=by rw[<-hW2];exact grownBy_putObj_a _ _ _
 have hk2:KeepsWalks W W2:=hka.trans (by rw[<-hW2];exact KeepsWalks.putObj _ hL rfl);have hv2:W2.heap[Bs]?=some (.cells #[v] 31 (0,0)):=by rw[<-hW2];exact(World.putObj_heap_other hBl).trans hv
 have hK2:W2.heap[D]?=some (.deferred (some [])):=by rw[<-hW2];exact(World.putObj_heap_other hDl).trans hK
 have hL2:W2.heap[l]?=some (.loop {gR fn sv Bs D .ready none with state:=.busy}):=by rw[<-hW2];exact World.putObj_heap_same hl
 have hrow2:W2.ownsRow w0.heap.size 77 2 v ss.length (iZ ss):=hrow.kept hg2 (ownsRow_ne_a hrow hL (fun cur e=>by first|cases e|exact hne (M4 e).2.1));have hb2:Below w0.heap.size w0 W2:=hbw.grown hg2 hbw.size (fun k e=>by cases e;exact h0l);have h52:W2.heap[W.heap.size]?=some (.cells #[.string ⟨x.pkg.toArray⟩,.string ⟨x.name.toArray⟩] 77 (0,0)):=by rw[<-hW2];exact(World.putObj_heap_other (by omega)).trans h5
 have hc5:W2.cell? ⟨W.heap.size,0,none⟩=some (.string ⟨x.pkg.toArray⟩):=by simp[World.cell?,h52]
 have hc6:W2.cell? ⟨W.heap.size,1,none⟩=some (.string ⟨x.name.toArray⟩):=by simp[World.cell?,h52]
 obtain⟨hc2,hf2⟩:=cell_of_box_a hv2;have hBlt:Bs<W2.heap.size:=(KG.1 hv2).1;have hl2:l<W2.heap.size:=(KG.1 hL2).1;have hDlt:D<W2.heap.size:=(KG.1 hK2).1
 have ne_of:∀{j:Nat} {o:Obj},W2.heap[j]?=some o->(∀cur,o≠.cells cur 77 (0,0))->some j≠v.ownBlock:=fun hj hno=>by
  rcases ownsRow_ne_a hrow2 hj hno with e|e
  ·rw[e];simp
  ·exact fun e'=>e e'.symm
 clear hW2;unfold oJ oH
 gi_wp2_with gi_round_op_a
 unfold w9
 gi_wp2_with (first
  |(gi_at_builtin;refine wpListIn_append_own _ rfl _ _ 31 rfl w0.heap.size 77 i0 (.agg #[.string ⟨#[]⟩,.string ⟨#[]⟩]) 2 32 Tryz.underlying31 hi hz0 hz1 hz2 rfl (by decide) _ _ _ rfl (hrow2.alloc _) ⟨W2.heap.size,0,none⟩ 1 1 (jT x) rfl rfl (w8 _ _ _ _) (by simp[Value.oneCell',jT]) (by omega) (by omega) (by have:=hb2.size;simp;omega) ?_;intro v' w3 hown' hg3 hnil3;have hv3:w3.heap[Bs]?=some (.cells #[v] 31 (0,0)):=(hg3.block Bs (by simp;omega) (ne_of hv2 (fun cur e=>by first|cases e|exact hne (M4 e).2.1))).trans ((Below.heap_alloc _ _ Bs hBlt).trans hv2);obtain⟨hc3,hf3⟩:=cell_of_box_a hv3;obtain⟨g',cap',cur',rfl,hbase',hgb',hr1,hr2,hr3,hr4⟩:∃g' cap' cur',v'=.slice (some ⟨g',0,none⟩) (ss.length+1) cap'/\w0.heap.size<=g'/\w3.heap[g']?=some (.cells cur' 77 (0,0))/\ss.length+1<=cap'/\cap'<=maxLen/\cur'.size=cap' *2/\cur'.toList.take ((ss.length+1) *2)=iZ ss++jT x:=hown'.2.elim (fun q=>absurd q.2 (by omega)) id;go_frame)
  |gi_round_op_a)
 have hg3':(W2.alloc (.cells #[.string ⟨x.pkg.toArray⟩,.string ⟨x.name.toArray⟩] 77)).grownBy w3 v.ownBlock:=hg3;have hL3:w3.heap[l]?=some (.loop {gR fn sv Bs D .ready none with state:=.busy}):=(hg3'.block l (by simp;omega) (ne_of hL2 (fun cur e=>by first|cases e|exact hne (M4 e).2.1))).trans ((Below.heap_alloc _ _ l hl2).trans hL2);have hK3:w3.heap[D]?=some (.deferred (some [])):=(hg3'.block D (by simp;omega) (ne_of hK2 (fun cur e=>by first|cases e|exact hne (M4 e).2.1))).trans ((Below.heap_alloc _ _ D hDlt).trans hK2);obtain⟨w4,hw4⟩:∃w4,w3.setCell ⟨Bs,0,none⟩ (.slice (some ⟨g',0,none⟩) (ss.length+1) cap')=w4:=⟨_,rfl⟩;rw[hw4];have hg4:w3.grownBy w4 (some Bs):=by rw[<-hw4];exact grownBy_setCell0_a _ _ _
 have hv4:w4.heap[Bs]?=some (.cells #[.slice (some ⟨g',0,none⟩) (ss.length+1) cap'] 31 (0,0)):=by rw[<-hw4];exact heap_setCell_box_a _ hv3
 have hL4:w4.heap[l]?=some (.loop {gR fn sv Bs D .ready none with state:=.busy}):=(hg4.block l (KG.1 hL3).1 (fun e=>hBl (by cases e;rfl))).trans hL3;have hK4:w4.heap[D]?=some (.deferred (some [])):=(hg4.block D (KG.1 hK3).1 (fun e=>hDB (by cases e;rfl))).trans hK3;have hrow4:=hown'.kept hg4 (ownsRow_ne_a hown' hv3 (fun cur e=>by first|cases e|exact hne (M4 e).2.1));have hl4:l<w4.heap.size:=(KG.1 hL4).1;have hb3:Below w0.heap.size w0 w3:=(hb2.alloc hb2.size _).grown hg3' (by have:=hb2.size;simp;omega) (fun k e=>(hrow2.lt k e).1);have hb4:Below w0.heap.size w0 w4:=hb3.grown hg4 hb3.size (fun k e=>by cases e;exact h0B);have hk4:KeepsWalks W w4:=((hk2.trans (KeepsWalks.alloc _ _)).trans (KeepsWalks.of_grownBy hg3' (ownsRow_not_walk_a (hrow2.alloc _)))).trans (by rw[<-hw4];exact KeepsWalks.setCell _ _ _);clear hw4;refine⟨_,_,run_endRound none hL4,rfl,⟨⟨_,(World.putObj_heap_other hBl).trans hv4,?_,by simp⟩,World.putObj_heap_same hl4,(World.putObj_heap_other hDl).trans hK4,hb4.grown (grownBy_putObj_a _ _ _) hb4.size (fun k e=>by cases e;exact h0l)⟩,hk4.trans (KeepsWalks.putObj _ hL4 rfl)⟩;have:=hrow4.kept (grownBy_putObj_a w4 l (.loop {{gR fn sv Bs D .ready none with state:=.busy}with state:=if(none:Option Code).isNone then .ready else .done,pending:=none})) (ownsRow_ne_a hrow4 hL4 (fun cur e=>by first|cases e|exact hne (M4 e).2.1));simpa[E3]using this
theorem Tryz.uappendSeq(F:Fence)(n:Nat)(h11:F.fn 98)(hro:F.round=none)(hn:2<=n)(g:Nat)(lb:Array Value)(hFg:F.fn g)(eg:∀args w,(callFunc g args).run Tryz.prog w=.ok (.enter g args) w)
 (S:List Nam->Prop)(N:Nat)(hN:N<=maxLen)(hNb:N *32<=140737488355328)(w:World)(hseq:SeqGives F (n-1) Tryz.prog g lb oH S N w) :
  CallsIn F n Tryz.prog 98 #[.slice none 0 0,.func (.func g) #[] lb] w fun e w'=>∃(v:Value)(ss:List Nam),e=.returned v/\S ss/\w'.ownsRow w.heap.size 77 2 v ss.length (iZ ss)/\(v=.slice none 0 0↔ss=[])/\Below w.heap.size w w':=by
 have h1:1<=n:=by omega
 have hne:(31:Nat)≠77:=by decide
 refine callsIn_of_wp_marks Tryz.func98 rfl h11 ?_ hro;simp only[Tryz.ntmps98,LN,Kq,KT,Nat.reduceAdd,Nat.reduceSub,LB,LC,LU,LM,Le,KU]
 gi_wp2
 refine wpIn_rangeFunc ?_;intro fn hfn;rw[hro];obtain⟨W0,hW0⟩:∃W0,w.alloc (.cells #[.slice none 0 0] 31)=W0:=⟨_,rfl⟩;have hs0:W0.heap.size=w.heap.size+1:=by rw[<-hW0];simp
 have hv0:W0.heap[w.heap.size]?=some (.cells #[.slice none 0 0] 31 (0,0)):=by rw[<-hW0];exact World.alloc_heap_new w _
 have hb0:Below w.heap.size w W0:=by rw[<-hW0];exact(Below.refl _ w).alloc (Kn _) _
 rw[hW0];obtain⟨W1,hW1⟩:∃W1,(W0.alloc (.deferred (some []))).alloc (.loop (gR fn (.func (.func g) #[] lb) w.heap.size W0.heap.size .ready none))=W1:=⟨_,rfl⟩;have hold:∀k,k<W0.heap.size->W1.heap[k]?=W0.heap[k]?:=fun k hk=>by rw[<-hW1];exact(Below.heap_alloc _ _ k (by simp;omega)).trans (Below.heap_alloc _ _ k hk)
 have hb1:Below w.heap.size w W1:=by rw[<-hW1];exact(hb0.alloc hb0.size _).alloc (by have:=hb0.size;simp;omega) _
 have hs1:W1.heap.size=W0.heap.size+2:=by rw[<-hW1];simp
 have hM:UApAt w fn (.func (.func g) #[] lb) w.heap.size (W0.heap.size+1) W0.heap.size [] W1:=
  ⟨⟨_,(hold w.heap.size (by omega)).trans hv0,⟨rfl,.inl ⟨rfl,rfl⟩⟩,by simp⟩,
   by rw[<-hW1];have:=World.alloc_heap_new (W0.alloc (.deferred (some []))) (.loop (gR fn (.func (.func g) #[] lb) w.heap.size W0.heap.size .ready none));rwa [World.size_alloc]at this,
   by rw[<-hW1];exact(Below.heap_alloc _ _ _ (by simp)).trans (World.alloc_heap_new W0 _),hb1⟩
 refine⟨W0.heap.size+1,[{target:=.collected W0.heap.size,args:=#[]}],W1,{target:=.fn (.func g) lb,args:=#[.func (.yield (W0.heap.size+1)) #[] #[]]},W1,g,
  #[.func (.yield (W0.heap.size+1)) #[] #[]]++lb,W1,?_,?_,?_,?_,fun _=>h1,?_⟩
 ·rw[<-hW1];exact run_enterLoop_outer _ _ _ _ _
 ·simp[resolve,go_sem]
 ·intro f' hf';simp[Target.leads]at hf';subst hf';exact hFg
 ·simp[invoke,go_sem,eg]
 ·refine(hseq (W0.heap.size+1) (UApAt w fn (.func (.func g) #[] lb) w.heap.size (W0.heap.size+1) W0.heap.size) W1 hb1 (B3 _ _ _ _ _ _ _ hb1.size)
   (fun pre x W hJ hl=>Tryz.uapYield F (n-1-1) w fn hfn _ w.heap.size (W0.heap.size+1) W0.heap.size (by omega) (by omega) (by omega) (Kn _) (by omega) N hN hNb pre x W hJ hl) hM).mono ?_
  rintro e W2 ⟨⟨v0,rfl⟩,ss,hS,h2⟩;obtain⟨v,hv,hrow,hnil⟩:=h2.box;have hend:=run_endLoop (P:=Tryz.prog) h2.L (by simp[gR]);obtain⟨W3,hW3⟩:∃W3,W2.putObj (W0.heap.size+1) (.loop {gR fn (.func (.func g) #[] lb) w.heap.size W0.heap.size .ready none with state:=.exhausted})=W3:=⟨_,rfl⟩;rw[hW3]at hend;have hg3:W2.grownBy W3 (some (W0.heap.size+1)):=by rw[<-hW3];exact grownBy_putObj_a _ _ _
  have hv3:W3.heap[w.heap.size]?=some (.cells #[v] 31 (0,0)):=by rw[<-hW3];exact(World.putObj_heap_other (by omega)).trans hv
  have hK3:W3.heap[W0.heap.size]?=some (.deferred (some [])):=by rw[<-hW3];exact(World.putObj_heap_other (by omega)).trans h2.K
  have hrow3:=hrow.kept hg3 (ownsRow_ne_a hrow h2.L (fun cur e=>by first|cases e|exact hne (M4 e).2.1));have hb3:Below w.heap.size w W3:=h2.below.grown hg3 h2.below.size (fun k e=>by cases e;omega);obtain⟨hc3,hf3⟩:=cell_of_box_a hv3;clear hW3;refine⟨none,W3,hend,?_⟩
  gi_wp2
  rw[<-hs0];refine⟨by simp,.inl ⟨_,_,rfl,run_takeDeferred hK3,?_⟩⟩;exact⟨_,results_tmp rfl _ _ _,v,ss,rfl,hS,hrow3.kept (grownBy_putObj_a _ _ _) (ownsRow_ne_a hrow3 hK3 (fun cur e=>by first|cases e|exact hne (M4 e).2.1)),hnil,hb3.grown (grownBy_putObj_a _ _ _) hb3.size (fun k e=>by cases e;omega)⟩
theorem Tryz.ucollect(F:Fence)(n:Nat)(h8:F.fn 57)(h11:F.fn 98)(hro:F.round=none)(hn:3<=n)(g:Nat)(lb:Array Value)(hFg:F.fn g)(eg:∀args w,(callFunc g args).run Tryz.prog w=.ok (.enter g args) w)
 (S:List Nam->Prop)(N:Nat)(hN:N<=maxLen)(hNb:N *32<=140737488355328)(w:World)(hseq:SeqGives F (n-1-1) Tryz.prog g lb oH S N w) :
  CallsIn F n Tryz.prog 57 #[.func (.func g) #[] lb] w fun e w'=>∃(v:Value)(ss:List Nam),e=.returned v/\S ss/\w'.ownsRow w.heap.size 77 2 v ss.length (iZ ss)/\(v=.slice none 0 0↔ss=[])/\Below w.heap.size w w':=by
 have h1:1<=n:=by omega
 have e98:∀args w,(callFunc 98 args).run Tryz.prog w=.ok (.enter 98 args) w:=enters_of Tryz.func98 (by kernel_rfl) rfl;refine callsIn_of_wp Tryz.func57 rfl h8 ?_ hro;simp only[Tryz.ntmps57,LN,Kq,KT,Nat.reduceAdd,Nat.reduceSub,LB,LC,LU,LM,Le,KU]
 gi_wp2_with (gi_at_fn 98;refine(Tryz.uappendSeq F (n-1) h11 hro (by omega) g lb hFg eg S N hN hNb _ hseq).mono ?_;rintro e w' ⟨v,ss,rfl,hS,hrow,hnil,hb⟩)
 go_ret
 exact⟨v,ss,rfl,hS,hrow,hnil,hb⟩
end Go.Proofs
end
section
namespace Go.Proofs
open Go.RowKit Go.Shelf Go.AL Go.Maps Go.Sort Go.Pd Go.Lib
variable [Tabs]
attribute [local go_sem] Oper.semAt_some
set_option maxHeartbeats 4000000
theorem uz:∀(ss:List Nam)(t:Nat),t<ss.length *2->(iZ ss)[t]?=some ((mc (ss.toArray[t/2]!))[t%2]!)
 |[],t,h=>by simp at h
 |x::r,t,h=>by
  have e:iZ (x::r)=jT x++iZ r:=by simp[iZ]
  rw[e]
  match t,h with
  |0,_=>rfl
  |1,_=>rfl
  |t+2,h=>
   have h':t<r.length *2:=by simp at h;omega
   have ih:=uz r t h';rw[Kt (by simp[jT])];rw[show t+2-(jT x).length=t by simp[jT],ih];have d:(t+2)/2=t/2+1:=by omega
   have m:(t+2)%2=t%2:=by omega
   rw[d,m];have hl:t/2<r.length:=by omega
   simp[hl]
theorem pK{w:World}{g n:Nat}{os:Array Obj}(d:Array Nam):w.grownBy (sortWorldK mc 2 w g 0 n d os) (some g):=by unfold sortWorldK putRowK;refine⟨rfl,rfl,rfl,by simp,fun k hk hne=>?_⟩;rw[heap_grow_old _ _ (by simpa using hk)];have:g≠k:=fun e=>hne (by rw[e]);simp[putRow,mapBlock,Sort.ahead,Lp,this]
def RowU(w':World)(base:Nat)(v:Value)(l:List Nam):Prop:=
 (v=.slice none 0 0/\l=[])∨∃g cap,v=.slice (some ⟨g,0,none⟩) l.length cap/\base<=g/\l.length<=cap/\cap<=maxLen/\HoldsK mc 2 w' g 0 l.toArray
theorem E4{ks:List Nam}(hnd:ks.Nodup){d:Array Nam}(hp:d.toList.Perm ks)(hs:SortedIn (ltOf cfU) 0 d.size d):d.toList=fO ks:=by
 have hn:d.toList.Nodup:=hp.nodup_iff.2 hnd;refine vV ?_ (uj hnd) fun v=>by rw[hp.mem_iff,fO,N3]
 unfold xJ;rw[Lw];intro i j hi hj hij;have hi':i<d.size:=by simpa using hi
 have hj':j<d.size:=by simpa using hj
 have h:=hs i j (Kg _) hij hj';rw[nw,getElem!_pos d j hj',getElem!_pos d i hi']at h;simp only[Nq];rcases lF d[i] d[j]with t|t|t
 ·exact t
 ·rw[LP,Lw]at hn;exact absurd (by simpa using t) (hn i j hi hj hij)
 ·rw[t]at h;cases h
theorem Tryz.usorted(w:World)(g:Nat)(lb:Array Value)(eg:∀args w,(callFunc g args).run Tryz.prog w=.ok (.enter g args) w)(ks:List Nam)(hN:ks.length *32<=140737488355328)(hnd:ks.Nodup)
 (hseq:SeqGives Fence.wide 2 Tryz.prog g lb oH (fun ss=>ss.Perm ks) ks.length w) :
  Calls Tryz.prog 27 #[.func (.func g) #[] lb,.func (.func 29) #[] #[]] w fun en w'=>∃v,en=.returned v/\RowU w' w.heap.size v (fO ks)/\RowKit.Below w.heap.size w w':=by
 have e57:∀args w,(callFunc 57 args).run Tryz.prog w=.ok (.enter 57 args) w:=enters_of Tryz.func57 (by kernel_rfl) rfl;have e58:∀args w,(callFunc 58 args).run Tryz.prog w=.ok (.enter 58 args) w:=enters_of Tryz.func58 (by kernel_rfl) rfl;have e29:∀args w,(callFunc 29 args).run Tryz.prog w=.ok (.enter 29 args) w:=enters_of Tryz.func29 (by kernel_rfl) rfl;have w57:Fence.wide.fn 57:=trivial;have w58:Fence.wide.fn 58:=trivial;refine(callsIn_wide (n:=5)).1 ?_;refine callsIn_of_wp (n:=5) Tryz.func27 rfl trivial ?_ rfl;simp only[Tryz.ntmps27,LN,Kq,KT,Nat.reduceAdd,Nat.reduceSub,LB,LC,LU,LM,Le,KU]
 gi_wp2_with (gi_at_fn 57;refine(Tryz.ucollect Fence.wide 4 trivial trivial rfl (by omega) g lb trivial eg _ ks.length (by unfold maxLen;omega) hN w hseq).mono ?_;rintro e W ⟨v,ss,rfl,hS,hrow,hnil,hb⟩)
 rcases hrow.2 with⟨rfl,hz⟩|⟨gb,cap,cur,rfl,hbase,hgb,r1,r2,r3,r4⟩
 ·have hss:ss=[]:=Kk hz;subst hss;have hks:ks=[]:=by have:=hS.length_eq;simp at this;exact Kk this.symm
  subst hks
  gi_wp2_with (gi_at_fn 58;refine(callsIn_wide.2 (AnyF.slices_SortFunc_none Tryz.sortf none 0 _ W)).mono ?_;rintro e w' ⟨rfl,rfl⟩)
  go_ret
  exact⟨_,rfl,.inl ⟨rfl,by simp[fO]⟩,hb⟩
 ·have hH:HoldsK mc 2 W gb 0 ss.toArray:=by
   intro j hj;have hj':j<ss.length *2:=by simpa using hj
   refine⟨?_,by simp[World.frozen?,hgb]⟩;have h1:cur.toList[j]?=(iZ ss)[j]?:=by rw[<-r4,List.getElem?_take_of_lt (by omega)]
   rw[uz ss j hj']at h1;rw[Lk,ak hgb,<-Ku,h1,get_flatK _ _ _ _ (by simpa using hj')];rfl
  have hgl:gb<W.heap.size:=(KG.1 hgb).1;have hsz:ss.toArray.size<4611686018427387904:=by have:=hS.length_eq;simp;omega
  have cS:=AnyQ.slices_SortFunc Tryz.sortf 2 Tryz.isAgg77 Tryz.sizeOf77 mc (fun _=>rfl) (by intro x v hv;simp[mc]at hv;rcases hv with rfl|rfl<;>rfl) cfU swoU 29 #[] gb 0 cap ss.toArray W e29 (Tryz.cmpLays _ _ _ _) hH hgl hsz;rw[show ss.toArray.size=ss.length by simp]at cS;clear hrow
  gi_wp2_with (gi_at_fn 58;refine(callsIn_wide.2 cS).mono ?_;rintro e w' ⟨rfl,d',n',os,hperm,hsort,rfl⟩)
  go_ret
  obtain⟨p1,_,p3⟩:=hperm;have hds:d'.size=ss.length:=by rw[p1];simp
  have x1:d'.extract 0 ss.length=d':=by rw[<-hds];simp
  have x2:ss.toArray.extract 0 ss.length=ss.toArray:=by simp
  rw[x1,x2]at p3;have hp:d'.toList.Perm ks:=(by simpa using p3:d'.toList.Perm ss).trans hS;rw[<-hds]at hsort;have hres:=E4 hnd hp hsort;have hrl:(fO ks).length=ss.length:=by rw[<-hres];simp[hds]
  refine⟨.slice (some ⟨gb,0,none⟩) ss.length cap,rfl,.inr ⟨gb,cap,by rw[hrl],hbase,by omega,r2,?_⟩,hb.grown (pK _) hb.size (fun j hj=>by cases hj;exact hbase)⟩;rw[<-hres];simp only[LO];exact holdsK_sortWorldK mc 2 W gb 0 n' ss.toArray d' os hgl hH (by rw[hds];simp)
end Go.Proofs
end
noncomputable section
namespace Go.AL
open Go.Proofs Go.RowKit Go.Maps Go.Sort Go.Shelf Go.Pd
variable [Tabs]
set_option maxHeartbeats 1000000
theorem me{τ:Ty}(m:List (Nam×den τ))(hN:m.length *32<=140737488355328) :
  aF Tryz.prog 27 [.fn 59 [.ptr 900 0],.fn 29 []] [(900,.box (.map 901)),(901,.map (.st .nm) τ m)] ⟨some (m.length *32<=140737488355328),none,.lst (.st .nm) (fO (m.map (·.1))) none,[(901,.map (.st .nm) τ m)]⟩:=by
 intro w pub e vs hp ht hv hs hd hi;obtain⟨v1,v2,rfl,h1,h2⟩:=VL.two_inv hv;obtain⟨us,rfl,hus⟩:=h1.fn_inv;obtain⟨us2,rfl,hus2⟩:=h2.fn_inv;obtain rfl:us2=[]:=Kk hus2.1.symm;obtain⟨u,rfl,hu⟩:=VL.one_inv hus;obtain⟨b,o,len,rfl,he⟩:=hu.ptr_inv;obtain⟨b',o',he',hbox⟩:=hs 900 _ rfl;rw[he]at he';cases he';obtain⟨_,_,_,v,hcell,hvm⟩:=hbox 0 (.map 901) rfl
 cases hvm with
 |map _ r her=>
  have her:e 901=some (.obj r):=her;obtain⟨r',her',_,es,clock,hr,hmok⟩:=hs 901 _ rfl;have her':e 901=some (.obj r'):=her';rw[her]at her';cases her';have hr:w.heap[r]?=some (.map es clock):=hr
  have ent:∀(i:Nat)(hi:i<m.length),∃en,es[i]?=some en/\en.key=oH m[i].1/\m[i].1.pkg.length<=b6/\m[i].1.name.length<=b6:=fun i hi=>by
   have hi':i<es.size:=by rw[hmok.size];exact hi
   have q:=Dh (hmok.ent i es[i] m[i] (KE hi') (K9 hi)).1;exact⟨es[i],KE hi',q.1,q.2⟩
  have hK:KeysU es clock (m.map (·.1)):=⟨by simp[hmok.size],fun i en k q1 q2=>by
   have hi:i<m.length:=by
    rcases Kl i m.length with q|q
    ·exact q
    ·rw[Kd (by simpa using q)]at q2;cases q2
   obtain⟨en',a1,a2,_⟩:=ent i hi;rw[q1]at a1;cases a1;rw[KF,K9 hi]at q2;cases q2;exact a2,hmok.idx,hmok.top⟩
  have hsq:=Tryz.ukeys Fence.wide 2 trivial rfl (by omega) b (o+0) r es clock _ hK w hcell hr;have e59:∀args w,(callFunc 59 args).run Tryz.prog w=.ok (.enter 59 args) w:=enters_of Tryz.func59 (by kernel_rfl) rfl;refine(Tryz.usorted w 59 #[.pointer (some ⟨b,o+0,none⟩)] e59 (m.map (·.1)) (by simpa using hN) hmok.keys hsq).mono ?_;rintro en w' ⟨v,rfl,hrow,hb⟩;have hlen:∀k∈fO (m.map (·.1)),k.pkg.length<=b6/\k.name.length<=b6:=fun k hk=>by rw[fO,N3]at hk;obtain⟨x,hx,rfl⟩:=KM.1 hk;obtain⟨i,hi,rfl⟩:=MV hx;obtain⟨_,_,_,a3⟩:=ent i hi;exact a3
  generalize fO (m.map (·.1))=l at hrow hlen
  have aft:∀(Q:Nat->Nat->Prop),(∀b o,Q b o->w.heap.size<=b/\∃v,w'.cell? ⟨b,o,none⟩=some v)->
    After w pub e (al (cd [(900,.box (.map 901)),(901,.map (.st .nm) τ m)] [(901,.map (.st .nm) τ m)])) w' (fun b o=>pub b o∨Q b o) (fun i=>if 901=i then some (.obj r)else e i):=fun Q hQ=>
   After.slot hp hs hd hi (k:=901) (obj:=.map (.st .nm) τ m) (c:=.obj r) (Q:=Q) hb.os hb.tape hb.output hb.size (fun b h _=>hb.block b h) (fun b o h _=>aj (hb.block b h) o)
    (fun b h _=>⟨aW (hb.block b h),fun o=>aN (hb.block b h) o⟩)
    (fun b o h=>by obtain⟨v,hv⟩:=hp b o h;exact aj (hb.block b (aQ hv)) o)
    hQ (fun c0 h=>by rw[her]at h;cases h;exact CLe.refl _) (fun b o ho=>.inr ⟨_,her,ho⟩)
    (fun hx=>⟨r,by simp,fun o=>.inr ⟨901,_,her,rfl⟩,es,clock,(hb.block r (bL hr)).trans hr,hmok.ext hx⟩)
  rcases hrow with⟨rfl,rfl⟩|⟨g,cap,rfl,hbase,h1,h2,hH⟩
  ·exact⟨_,_,fun _ _ _ h=>(by cases h),.lstNil _ _ (fun _ h=>by cases h),aft (fun _ _=>False) (fun _ _ h=>h.elim)⟩
  ·have cel:∀(i:Nat)(hi:i<l.length)(c:Nat),c<2->w'.cell? ⟨g,i *2+c,none⟩=some ((mc l[i])[c]!):=fun i hi c hc=>by have:=(hH.cell (i:=i) (by simpa using hi) hc).1;rw[show 0+i *2+c=i *2+c by omega]at this;rw[this];simp[hi]
   refine⟨_,_,fun _ _ _ h=>(by cases h),?_,aft (fun b o=>b=g/\o<l.length *2) (fun b o ⟨q1,q2⟩=>?_)⟩
   ·refine .lst (.st .nm) l none g 0 cap (fun i j=>(mc (l.getD i default))[j]!) h1 (by unfold maxLen at h2;unfold b6;omega) (fun id h=>by cases h) (fun i x hx j c hc=>?_) (fun i x hx j c hc=>?_)
    ·obtain⟨hi',rfl⟩:=KS.1 hx;have hj:j<2:=(KS.1 hc).1;have ew:ab (.st .nm)=2:=rfl;rw[ew,Lk];refine⟨.inr ⟨rfl,by omega⟩,?_⟩;show w'.cell? ⟨g,i *2+j,none⟩=_;rw[cel i hi' j hj,Ke,K9 hi'];rfl
    ·obtain⟨hi',rfl⟩:=KS.1 hx;have q:=hlen l[i] (Me hi');rw[Ke,K9 hi',L8]
     match j,hc with
     |0,hc=>cases hc;exact .str _ q.1
     |1,hc=>cases hc;exact .str _ q.2
     |j+2,hc=>cases hc
   ·subst q1;have hd2:o=(o/2) *2+o%2:=by omega
    exact⟨hbase,_,by rw[hd2];exact cel (o/2) (by omega) (o%2) (by omega)⟩
def sq:Pat:=fun args S=>
 match args,S with
 |[.fn g [.ptr 900 0],.fn h []],[(900,.box (.map 901)),(901,.map (.st .nm) τ m)]=>
  if g=59/\h=29 then some ⟨some (m.length *32<=140737488355328),none,.lst (.st .nm) (fO (m.map (·.1))) none,[(901,.map (.st .nm) τ m)]⟩else none
 |_,_=>none
theorem tA(he:aB Tryz.prog 27):ag Tryz.prog 27 sq:=by
 intro args S A h hob hkeys;unfold sq at h;split at h
 ·split at h
  ·rename_i e;obtain⟨rfl,rfl⟩:=e;cases h;exact⟨he,me _ (hob _ rfl)⟩
  ·cases h
 ·cases h
def kX:Pat:=fun args S=>
 match args,S with
 |[.fn g [.ptr 900 0],.fn h []],[(900,.box (.map 901)),(901,.map (.st .nm) τ [x])]=>
  if Nat.beq g 59&&Nat.beq h 29 then some ⟨none,none,.lst (.st .nm) [x.1] none,[(901,.map (.st .nm) τ [x])]⟩else none
 |_,_=>none
theorem su(he:aB Tryz.prog 27):ag Tryz.prog 27 kX:=by
 intro args S A h hob hkeys;unfold kX at h;split at h
 ·rename_i τ x;split at h
  ·rename_i e;rw[Ka]at e;obtain⟨e1,e2⟩:=e;obtain rfl:=Kz e1;obtain rfl:=Kz e2;cases h;refine⟨he,?_⟩;have:=me (τ:=τ) [x] (by simp);have e:fO ([x].map (·.1))=[x.1]:=by simp[fO]
   rw[e]at this;exact this
  ·cases h
 ·cases h
end Go.AL
end
noncomputable section
namespace Go.Pd
open Go Go.AL
def mxU(N:Nat)(x:Trm):Bool:=x.shapes.all fun s=>decide (sz s<=N)
def hU(s:Shape):List Nam:=if s.kind=9/\s.pkg≠[]then[⟨s.pkg,s.name⟩]else[]
def cC(t:Trm):List Nam:=if t.kind=5/\t.pkg≠[]then[⟨t.pkg,t.name⟩]else[]
theorem yk{K V:Type}[DecidableEq K](k:K)(v:V):∀m:List (K×V),(dA m k v).length<=m.length+1
 |[]=>by simp[dA]
 |(a,u)::r=>by have:=yk k v r;unfold dA;split<;>simp only[Kq]<;>omega
theorem eP:∀(l:List Nam)(m:List (Nam×Int)),(aI m l).length<=m.length+l.length
 |[],m=>Kn _
 |u::r,m=>by have h1:=eP r (Aw m u);have h2:(Aw m u).length<=m.length+1:=yk ..;show(aI (Aw m u) r).length<=_;simp only[Kq];omega
theorem mJ{K V:Type}[DecidableEq K](k:K)(z v:V):∀m:List (K×V),gM (dA m k z) (mix m k) v=dA m k v
 |[]=>by simp[dA,mix,gM]
 |(a,u)::r=>by
  have ih:=mJ k z v r;unfold dA mix;by_cases e:k=a
  ·rw[Kf e,Kf e,Kf e];simp[gM]
  ·rw[Kb e,Kb e,Kb e,<-ih];simp[gM]
theorem B4{K V:Type}[DecidableEq K](k:K)(z:V):∀m:List (K×V),mix m k<(dA m k z).length
 |[]=>by simp[dA,mix]
 |(a,u)::r=>by
  have ih:=B4 k z r;unfold dA mix;by_cases e:k=a
  ·rw[Kf e,Kf e];simp
  ·rw[Kb e,Kb e];simp only[Kq];omega
theorem jU(l:List Shape)(k:Nat)(d:Shape)(h:k<l.length):useSL (l.take (k+1))=useSL (l.take k)++useS (l.getD k d):=by rw[bQ l k d h,ou];congr 1;rw[useSL,useSL,LQ]
theorem sw(l:List Trm)(k:Nat)(d:Trm)(h:k<l.length):useTL (l.take (k+1))=useTL (l.take k)++useT (l.getD k d):=by rw[bQ l k d h,ow];congr 1;rw[useTL,useTL,LQ]
theorem ny(l:List Shape)(k:Nat):(useSL (l.take k)).length<=(useSL l).length:=by
 have e:useSL l=useSL (l.take k)++useSL (l.drop k):=by rw[<-ou,M3]
 rw[e,Kw];omega
theorem yl(l:List Trm)(k:Nat):(useTL (l.take k)).length<=(useTL l).length:=by
 have e:useTL l=useTL (l.take k)++useTL (l.drop k):=by rw[<-ow,M3]
 rw[e,Kw];omega
end Go.Pd
namespace Go.AL
variable [Tabs] {P:Program}
def E5(τ:Ty)(O:List (Nam×Int)->den τ->Prop)(F:List (Nam×Int)->den τ->List (Nam×Int)):Pat:=fun args S=>
 match args,S with
 |[.map 900,a],[(900,.map (.st .nm) (.int .i64) m)]=>(match arg τ a with|some x=>some ⟨some (O m x),none,.tup [],[(900,.map (.st .nm) (.int .i64) (F m x))]⟩|none=>none)
 |_,_=>none
theorem qe{f:Nat}{τ:Ty}{O:List (Nam×Int)->den τ->Prop}{F:List (Nam×Int)->den τ->List (Nam×Int)}(he:aB P f)
 (h:∀m x,Wf τ x->O m x->aF P f [.map 900,inj τ x] [(900,.map (.st .nm) (.int .i64) m)] ⟨some (O m x),none,.tup [],[(900,.map (.st .nm) (.int .i64) (F m x))]⟩):ag P f (E5 τ O F):=by
 intro args S A hA ho _;unfold E5 at hA;split at hA
 ·split at hA
  ·rename_i x hx;simp only[Xs]at hA;subst hA;exact⟨he,aF.args (.cons (Rd.refl _) (.cons (Rd.arg hx) .nil)) (aF.wf fun hw=>h _ _ hw.cons.2.one (ho _ rfl))⟩
  ·cases hA
 ·cases hA
end Go.AL
end
noncomputable section
namespace Go.Pd
open Go Go.AL
theorem Iy{a:Nam}{g q:Str}(h:Op.bytesLess a.pkg g=true):ltU a ⟨g,q⟩=true:=by rw[Go.Proofs.bytesLess_eq]at h;unfold ltU;rw[h];rfl
theorem Iz{a:Nam}{g q:Str}(e:decide (a.pkg=g)=true)(h:Op.bytesLess a.name q=true):ltU a ⟨g,q⟩=true:=by rw[Go.Proofs.bytesLess_eq]at h;unfold ltU;rw[h,e];exact NA _
theorem IA{a:Nam}{g q:Str}(h:¬Op.bytesLess a.pkg g=true)(e:¬decide (a.pkg=g)=true):ltU a ⟨g,q⟩=false:=by rw[Go.Proofs.bytesLess_eq]at h;unfold ltU;rw[LI]at h e;rw[h,e];rfl
theorem IB{a:Nam}{g q:Str}(h:¬Op.bytesLess a.pkg g=true)(k:¬Op.bytesLess a.name q=true):ltU a ⟨g,q⟩=false:=by rw[Go.Proofs.bytesLess_eq]at h k;unfold ltU;rw[LI]at h k;rw[h,k];exact KJ _
theorem E6{l:List Nam}{u d:Nam}{x:Nat}(hx:x<l.length)(h:cA l u=l.take x++cA (l.drop x) u)(k:ltU (l.getD x d) u=true) :
  cA l u=l.take (x+1)++cA (l.drop (x+1)) u:=by
 rw[ai l x d hx,cA,Kf k]at h;rw[h,bQ l x d hx,KQ];rfl
theorem E7{l:List Nam}{u d:Nam}{x:Nat}(hx:x<l.length)(h:cA l u=l.take x++cA (l.drop x) u)(e:l.getD x d=u):l=cA l u:=by rw[ai l x d hx,cA,e,iU,Kb Lz,Kf rfl,<-e,<-ai l x d hx,e,M3]at h;exact h.symm
theorem oK{l:List Nam}{u d:Nam}{x:Nat}(h:cA l u=l.take x++cA (l.drop x) u)(n:x<l.length->ltU (l.getD x d) u=false)
 (e:x<l.length->¬l.getD x d=u):cA l u=l.take x++u::l.drop x:=by
 by_cases hx:x<l.length
 ·rw[ai l x d hx,cA,n hx,Kb Lz,Kb (e hx),<-ai l x d hx]at h;exact h
 ·rw[LD (by omega),cA]at h;rw[h,LD (by omega)]
def GU(l:List Nam)(g q:Str)(x:Nat):Prop:=
  ((0:Int)<=(0:Int)/\(0:Int)<=(↑x:Int)/\(↑x:Int)<=(↑(List.length l):Int))/\
      (List.length ([]:List Nam)=List.length ([]:List Nam)/\
        (List.length ([]:List Nam)+List.length (List.drop (Int.toNat (0:Int)) (List.take (Int.toNat (↑x:Int)) l))) *
          (32:Nat)<=
         (140737488355328:Nat))/\
       (List.length ([]++List.drop (Int.toNat (0:Int)) (List.take (Int.toNat (↑x:Int)) l))=
          List.length ([]++List.drop (Int.toNat (0:Int)) (List.take (Int.toNat (↑x:Int)) l))/\
         (List.length ([]++List.drop (Int.toNat (0:Int)) (List.take (Int.toNat (↑x:Int)) l))+
            List.length [{pkg:=g,name:=q:Nam}]) *
           (32:Nat)<=
          (140737488355328:Nat))/\
        ((0:Int)<=(↑x:Int)/\
          (↑x:Int)<=(↑(List.length l):Int)/\(↑(List.length l):Int)<=(↑(List.length l):Int))/\
         (List.length
             ([]++List.drop (Int.toNat (0:Int)) (List.take (Int.toNat (↑x:Int)) l)++
              [{pkg:=g,name:=q:Nam}])=
            List.length
             ([]++List.drop (Int.toNat (0:Int)) (List.take (Int.toNat (↑x:Int)) l)++
              [{pkg:=g,name:=q:Nam}])/\
           (List.length
               ([]++List.drop (Int.toNat (0:Int)) (List.take (Int.toNat (↑x:Int)) l)++
                [{pkg:=g,name:=q:Nam}])+
              List.length
               (List.drop (Int.toNat (↑x:Int)) (List.take (Int.toNat (↑(List.length l):Int)) l))) *
             (32:Nat)<=
            (140737488355328:Nat))/\
          True/\
           []++List.drop (Int.toNat (0:Int)) (List.take (Int.toNat (↑x:Int)) l)++
               [{pkg:=g,name:=q:Nam}]++
              List.drop (Int.toNat (↑x:Int)) (List.take (Int.toNat (↑(List.length l):Int)) l)=
             cA l {pkg:=g,name:=q:Nam}/\
            True
theorem GV{a:Nam}{g q:Str}(h:a.pkg=g)(k:a.name=q):a=⟨g,q⟩:=by cases a;cases h;cases k;rfl
theorem wa{l:List Nam}{g q:Str}{x:Nat}(hx:x<=l.length)(ho:l.length<=1000000000000)(e:cA l ⟨g,q⟩=l.take x++(⟨g,q⟩:Nam)::l.drop x):GU l g q x:=by
 unfold GU;have t0:(0:Int).toNat=0:=rfl;simp only[Kh,t0,LF,KW,Le,Kw,Kq,KT,LH,LY,e,KQ,KU]
 repeat' (first|exact trivial|rfl|omega|apply And.intro)
theorem fv(l a b:List Nam):an l (a++b)=an (an l a) b:=N9
theorem ym(u:Nam):∀l:List Nam,(cA l u).length<=l.length+1
 |[]=>Kn _
 |x::r=>by
  have:=ym u r;unfold cA;split
  ·simp only[Kq];omega
  ·split<;>simp only[Kq]<;>omega
theorem dK:∀(us l:List Nam),(an l us).length<=l.length+us.length
 |[],l=>Kn _
 |u::r,l=>by have h1:=dK r (cA l u);have h2:=ym u l;show(an (cA l u) r).length<=_;simp only[Kq];omega
def px(d:Dcl):List Nam:=useS d.shape++useT d.term
def cz:List Dcl->List Nam
 |[]=>[]
 |d::r=>px d++cz r
theorem oL:∀a b:List Dcl,cz (a++b)=cz a++cz b
 |[],b=>rfl
 |x::a,b=>by rw[KU,cz,cz,oL a b,KQ]
theorem sx(l:List Dcl)(k:Nat)(d:Dcl)(h:k<l.length):cz (l.take (k+1))=cz (l.take k)++px (l.getD k d):=by rw[bQ l k d h,oL];congr 1;rw[cz,cz,LQ]
theorem yn(l:List Dcl)(k:Nat):(cz (l.take k)).length<=(cz l).length:=by
 have e:cz l=cz (l.take k)++cz (l.drop k):=by rw[<-oL,M3]
 rw[e,Kw];omega
mutual
theorem useS_sz:∀s:Shape,(useS s).length<=sz s
 |⟨k,p,n,_,ps⟩=>by have:=useSL_sz ps;rw[useS,sz,Kw];split<;>simp only[Kq,KT]<;>omega
theorem useSL_sz:∀l:List Shape,(useSL l).length<=szL l
 |[]=>Kg _
 |p::r=>by have h1:=useS_sz p;have h2:=useSL_sz r;rw[useSL,szL,Kw];omega
end
theorem uA{N:Nat}:∀l:List Shape,(∀s∈l,sz s<=N)->(useSL l).length<=N *l.length
 |[],_=>Kg _
 |p::r,h=>by have h1:=useS_sz p;have h2:=h p (KK ..);have h3:=uA r fun s hs=>h s (Kx _ hs);rw[useSL,Kw,Kq,Nat.mul_succ];omega
theorem uB{c:Nat}:∀l:List Trm,(∀t∈l,(useT t).length<=szT t *c)->(useTL l).length<=szTL l *c
 |[],_=>Kg _
 |p::r,h=>by have h1:=h p (KK ..);have h2:=uB r fun s hs=>h s (Kx _ hs);rw[useTL,szTL,Kw,L4];omega
theorem fS{c:Prop}[Decidable c]{a b:Bool}(h:(if c then a else b)=true):a=true∨b=true:=by
 split at h
 ·exact .inl h
 ·exact .inr h
theorem yo{t:Trm}(h:az t=true)(hz:t.parts.length<=4096):t.shapes.length<=4097/\mxU 400 t=true:=by
 unfold az at h;rw[Ka]at h;obtain⟨h1,h2⟩:=h;refine⟨?_,?_⟩
 ·unfold k9 at h2;rcases fS h2 with h|h2
  ·unfold cJ at h;simp only[Ka,Kc]at h;omega
  rcases fS h2 with h|h2
  ·unfold cJ at h;simp only[Ka,Kc]at h;omega
  rcases fS h2 with h|h2
  ·unfold cJ at h;simp only[Ka,Kc]at h;omega
  rcases fS h2 with h|h2
  ·unfold cJ at h;simp only[Ka,Kc]at h;omega
  rcases fS h2 with h|h2
  ·unfold cJ at h;simp only[Ka,Kc]at h;omega
  rcases fS h2 with h|h2
  ·unfold cJ at h;simp only[Ka,Kc]at h;omega
  rcases fS h2 with h|h2
  ·unfold cJ at h;simp only[Ka,Kc]at h;omega
  rcases fS h2 with h|h2
  ·unfold cJ at h;simp only[Ka,Kc]at h;omega
  rcases fS h2 with h|h2
  ·unfold cJ at h;simp only[Ka,Kc]at h;omega
  rcases fS h2 with h|h2
  ·unfold cJ at h;simp only[Ka,Kc]at h;omega
  rcases fS h2 with h|h2
  ·unfold cJ at h;simp only[Ka,Kc]at h;omega
  rcases fS h2 with h|h2
  ·unfold cJ at h;simp only[Ka,Kc]at h;omega
  rcases fS h2 with h|h2
  ·unfold cJ at h;simp only[Ka,Kc]at h;omega
  rcases fS h2 with h|h2
  ·unfold cJ at h;simp only[Ka,Kc]at h;omega
  cases h2
 ·unfold iC at h1;rw[Ka]at h1;rw[mxU,Kp];intro s hs;have:=Kp.1 h1.2 s hs;unfold bg at this;rw[Ka]at this;exact Xd (iR (Xo this.1)).1
theorem E8(t:Trm):t.parts.length<szT t:=by
 have:∀l:List Trm,l.length<=szTL l:=fun l=>by
  induction l with
  |nil=>exact Kg _
  |cons x r ih=>have:=eo x;rw[szTL,Kq];omega
 have h1:=this t.parts;have h2:=gi t;omega
theorem CR:∀(n:Nat)(t:Trm),szT t<=n->n<=4096->allT az t=true->(useT t).length<=szT t *1638801/\allT (mxU 400) t=true
 |0,t,h,_,_=>by have:=eo t;omega
 |n+1,t,h,hn,ha=>by
  have h2:=gi t;have hp:=E8 t;rw[allT_eq,Ka,allTL_all,Kp]at ha;obtain⟨k1,k2⟩:=yo ha.1 (by omega);have ih:∀x∈t.parts,(useT x).length<=szT x *1638801/\allT (mxU 400) x=true:=fun x hx=>by have h1:=eV hx;exact CR n x (by omega) (by omega) (ha.2 x hx)
  refine⟨?_,?_⟩
  ·have c1:=uB t.parts fun x hx=>(ih x hx).1;have c2:=uA (N:=400) t.shapes fun s hs=>Xo (Kp.1 k2 s hs);rw[qa,Kw,Kw];have c3:(if t.kind=5/\t.pkg≠[]then[(⟨t.pkg,t.name⟩:Nam)]else[]).length<=1:=by split<;>simp
   have c4:szT t *1638801=szTL t.parts *1638801+1638801:=by rw[h2];omega
   omega
  ·rw[allT_eq,Ka,allTL_all,Kp];exact⟨k2,fun x hx=>(ih x hx).2⟩
def yp(d:Dcl):Prop:=sz d.shape<=400/\szT d.term<=4096/\allT (mxU 400) d.term=true/\(px d).length<=6712530000
theorem JG{d:Dcl}(h:cY d=true):yp d:=by
 have hS:(useS d.shape).length<=sz d.shape:=useS_sz _;unfold yp px;rw[Kw];unfold cY at h;split at h
 ·simp only[Ka,Kc]at h;obtain⟨⟨⟨_,h1⟩,_⟩,h2⟩:=h;have hz:=(iR h1).1;unfold noT at h2;simp only[Ka,Kc]at h2;obtain⟨⟨⟨⟨⟨a1,a2⟩,a3⟩,a4⟩,a5⟩,a6⟩:=h2;have p0:d.term.parts=[]:=Kk (by omega);have s0:d.term.shapes=[]:=Kk (by omega);have zt:szT d.term=1:=by rw[gi,p0,szTL]
  have ut:useT d.term=[]:=by rw[qa,p0,s0,useTL,useSL,Kb (by omega)];rfl
  refine⟨hz,by omega,?_,by rw[ut,KT];omega⟩;rw[allT_eq,p0,allTL,mxU,s0];rfl
 ·split at h
  ·simp only[Ka,Kc]at h;obtain⟨⟨_,h1⟩,h2⟩:=h;have hz:sz d.shape<=400:=by unfold noS at h2;simp only[Ka,Kc]at h2;have p0:d.shape.parts=[]:=Kk (by omega);rw[iP,p0,szL];omega
   unfold db at h1;rw[countT_size d.term 4096 (by omega)]at h1;split at h1
   ·omega
   split at h1
   ·omega
   split at h1
   ·rename_i a _ b;have hs:szT d.term<=4096:=by omega
    obtain⟨u1,u2⟩:=CR _ d.term (Kn _) hs b;exact⟨hz,hs,u2,by omega⟩
   ·omega
  ·cases h
theorem yq:∀l:List Dcl,(∀d∈l,yp d)->(cz l).length<=l.length *6712530000
 |[],_=>Kg _
 |d::r,h=>by have h1:=(h d (KK ..)).2.2.2;have h2:=yq r fun x hx=>h x (Kx _ hx);rw[cz,Kw,Kq,Nat.succ_mul];omega
theorem sy{m:Modu}(h:bu m=0)(hd:m.decls.length<=60):(∀d∈m.decls,yp d)/\(cz m.decls).length<=402751800000:=by
 unfold bu at h;split at h
 ·rename_i k;unfold okM at k;simp only[Ka,Kp]at k;have q:∀d∈m.decls,yp d:=fun d hd=>by have:=k.2.2.1 d hd;unfold gL at this;rw[Ka]at this;exact JG this.1
  have c:=yq _ q;refine⟨q,Ld c ?_⟩;omega
 ·cases h
def bV(m:Modu):List Nam:=if bu m=0 then an [] (cz m.decls)else[]
def eQ(l:List Nam)(x:Impt):Bool:=l.any fun u=>decide (u.pkg=x.name)
def bC(l:List Nam):List Impt->List Str
 |[]=>[]
 |x::r=>if eQ l x=true then bC l r else x.name::bC l r
def mf(m:Modu):List Str:=if bu m=0 then bC (bV m) m.imports else[]
theorem uC(l:List Nam):∀a b:List Impt,bC l (a++b)=bC l a++bC l b
 |[],b=>rfl
 |x::a,b=>by rw[KU,bC,bC,uC l a b];split<;>rfl
theorem sA(l:List Nam)(xs:List Impt)(k:Nat)(d:Impt)(h:k<xs.length) :
  bC l (xs.take (k+1))=if eQ l (xs.getD k d)=true then bC l (xs.take k)else bC l (xs.take k)++[(xs.getD k d).name]:=by
 rw[bQ xs k d h,uC,bC];split
 ·rw[bC,LQ]
 ·rw[bC]
theorem B5(l:List Nam)(x:Impt)(k:Nat)(d:Nam)(h:k<l.length):eQ (l.take (k+1)) x=(eQ (l.take k) x||decide ((l.getD k d).pkg=x.name)):=by rw[bQ l k d h,eQ,eQ,List.any_append,List.any_cons,List.any_nil,NQ]
theorem oM(l:List Nam):∀a:List Impt,(bC l a).length<=a.length
 |[]=>Kn _
 |x::r=>by have:=oM l r;rw[bC];split<;>simp only[Kq]<;>omega
theorem E9(m:Modu)(hd:m.decls.length<=60):(bV m).length<=402751800000:=by
 unfold bV;split
 ·rename_i h;have h1:=(sy h hd).2;have h2:=dK (cz m.decls) [];rw[KT]at h2;omega
 ·exact Kg _
end Go.Pd
end
noncomputable section
namespace Go.AL
open Go
variable [Tabs] {P:Program}
def sB(g:Nat):Pat:=fun args S=>
 match args,S with
 |[.map 900],[(900,.map (.st .nm) (.int .i64) m)]=>some ⟨none,none,.fn g [.ptr 1 0],[(1,.box (.map 900)),(900,.map (.st .nm) (.int .i64) m)]⟩
 |_,_=>none
theorem yr{f g:Nat}(he:aB P f)(h:∀m:List (Nam×Int),aF P f [.map 900] [(900,.map (.st .nm) (.int .i64) m)] ⟨none,none,.fn g [.ptr 1 0],[(1,.box (.map 900)),(900,.map (.st .nm) (.int .i64) m)]⟩):ag P f (sB g):=by
 intro args S A hA _ _;unfold sB at hA;split at hA
 ·simp only[Xs]at hA;subst hA;exact⟨he,h _⟩
 ·cases hA
def nz(g:Nat)(F:List Nam->Impt->Ans):Pat:=fun args S=>
 match args,S with
 |[a,.fn f [.ptr 900 0]],[(900,.box (.st .imp x))]=>(match Nat.beq f g,arg (.lst (.st .nm)) a with|true,some l=>some (F l x)|_,_=>none)
 |_,_=>none
theorem py{f g:Nat}{F:List Nam->Impt->Ans}(he:aB P f)(h:∀a x,Wf (.lst (.st .nm)) a->(∀q,(F a x).ob=some q->q)->aF P f [.lst (.st .nm) a none,.fn g [.ptr 900 0]] [(900,.box (.st .imp x))] (F a x)) :
  ag P f (nz g F):=by
 intro args S A hA ho _;unfold nz at hA;split at hA
 ·split at hA
  ·rename_i x hb hx;simp only[Xs]at hA;subst hA;have e:=Kz hb;subst e;exact⟨he,aF.args (.cons (Rd.arg hx) (.cons (Rd.refl _) .nil)) (aF.wf fun hw=>h _ _ hw.one ho)⟩
  ·cases hA
 ·cases hA
def B6(F:Nam->Impt->Ans):Pat:=fun args S=>
 match args,S with
 |[a,.ptr 900 0],[(900,.box (.st .imp x))]=>(match arg (.st .nm) a with|some u=>some (F u x)|_=>none)
 |_,_=>none
theorem Ea{f:Nat}{F:Nam->Impt->Ans}(he:aB P f)(h:∀u x,(∀q,(F u x).ob=some q->q)->aF P f [.st .nm u,.ptr 900 0] [(900,.box (.st .imp x))] (F u x)) :
  ag P f (B6 F):=by
 intro args S A hA ho _;unfold B6 at hA;split at hA
 ·split at hA
  ·rename_i x hx;simp only[Xs]at hA;subst hA;exact⟨he,aF.args (.cons (Rd.arg hx) (.cons (Rd.refl _) .nil)) (h _ _ ho)⟩
  ·cases hA
 ·cases hA
end Go.AL
namespace Go.Pd
open Go.AL
def pL(x:Impt)(u:Nam):Bool:=!decide (u.pkg=x.name)
theorem Eb(l:List Nam)(x:Impt):(!l.all (pL x))=eQ l x:=by
 unfold eQ pL
 induction l with
 |nil=>rfl
 |cons a r ih=>rw[KR,List.any_cons,<-ih];cases decide (a.pkg=x.name)<;>rfl
theorem sC(u:Nam)(v:Int):∀m:List (Nam×Int),(m.map (·.1)).Nodup->((dA m u v).map (·.1)).Nodup
 |[],_=>by simp[dA]
 |(a,c)::r,h=>by
  have h1:=MD.1 h;unfold dA;split
  ·rename_i e;subst e;exact h
  ·rename_i e;refine MD.2 ⟨fun q=>?_,sC u v r h1.2⟩;rcases(uh r u a v).1 q with q|q
   ·exact h1.1 q
   ·exact e q.symm
theorem sD:∀(us:List Nam)(m:List (Nam×Int)),(m.map (·.1)).Nodup->((aI m us).map (·.1)).Nodup
 |[],_,h=>h
 |u::r,m,h=>sD r (Aw m u) (sC _ _ _ h)
theorem GW{m:Modu}(h:bu m=0):fO ((aI [] (cz m.decls)).map (·.1))=bV m:=
 (Gh _ (sD _ _ NH)).trans (Kf h).symm
end Go.Pd
end
noncomputable section
namespace Go.Pd
open Go Go.AL
def lgD:List Dcl->Int->Option Int
 |[],n=>some n
 |d::r,n=>if 600<n+(dr d.term 300+sizeF d.shape 300)then none else lgD r (n+(dr d.term 300+sizeF d.shape 300))
def lgR(l:List Bnd):Bool:=l.all fun b=>decide (b.v.pre.length<=60)
def lgI(x:Impt):Bool:=decide (x.range.length<=30)&&(decide (x.pin.pre.length<=60)&&lgR x.range)
def lgH(m:Modu)(n:Int):Bool:=decide (n+(20+(m.imports.length:Int))<=600)&&(decide (m.imports.length<=20)&&(decide (m.exports.length<=80)&&decide (m.decls.length<=60)))
def lgA(o:Option Int)(m:Modu)(k:Int->Bool):Bool:=match o with|none=>false|some n=>m.imports.all lgI&&k n
def lgM:List Modu->Int->Bool
 |[],_=>true
 |m::r,n=>lgH m n&&lgA (lgD m.decls (n+(20+(m.imports.length:Int)))) m (lgM r)
theorem JH{m:Modu}(h:lgM [m] 0=true):m.decls.length<=60/\m.imports.length<=20:=by rw[lgM,Ka]at h;have h:=h.1;unfold lgH at h;simp only[Ka,Kc]at h;exact⟨h.2.2.2,h.2.1⟩
theorem nA{m:Modu}{n:Int}:lgH m n=true↔n+(20+(m.imports.length:Int))<=600/\m.imports.length<=20/\m.exports.length<=80/\m.decls.length<=60:=by unfold lgH;simp only[Ka,Kc]
theorem CS{x:Impt}:lgI x=true↔x.range.length<=30/\x.pin.pre.length<=60/\lgR x.range=true:=by unfold lgI;simp only[Ka,Kc]
theorem GX(b:Bnd)(r:List Bnd):lgR (b::r)=(decide (b.v.pre.length<=60)&&lgR r):=KR
def szM:List Modu->Nat
 |[]=>0
 |m::r=>max (szDs m.decls) (szM r)
where szDs:List Dcl->Nat
 |[]=>0
 |d::r=>max (max (sz d.shape) (szT d.term)) (szDs r)
theorem CT:∀(l:List Dcl)(d:Dcl),d∈l->sz d.shape<=szM.szDs l/\szT d.term<=szM.szDs l
 |x::r,d,h=>by
  rw[szM.szDs];rcases Ks.1 h with rfl|h
  ·exact⟨Ld (MZ _ _) (MZ _ _),Ld (MS _ _) (MZ _ _)⟩
  ·have:=CT r d h;exact⟨Ld this.1 (MS _ _),Ld this.2 (MS _ _)⟩
theorem GY:∀(l:List Modu)(m:Modu),m∈l->∀d∈m.decls,sz d.shape<=szM l/\szT d.term<=szM l
 |x::r,m,h,d,hd=>by
  rw[szM];rcases Ks.1 h with rfl|h
  ·have:=CT _ d hd;exact⟨Ld this.1 (MZ _ _),Ld this.2 (MZ _ _)⟩
  ·have:=GY r m h d hd;exact⟨Ld this.1 (MS _ _),Ld this.2 (MS _ _)⟩
end Go.Pd
end
section
open Go Go.AL Go.Pd
namespace Go.AL.Seat
theorem GZ(c:Int)  :
  if decide ((97:Int)<=c)=true then True/\decide (c<=(122:Int))=bZ c/\True else True/\false=bZ c/\True:=by
 unfold bZ;simp only[kK];split<;>simp[*]
theorem H0(c:Int)  :
  if decide ((65:Int)<=c)=true then True/\decide (c<=(90:Int))=cm c/\True else True/\false=cm c/\True:=by
 unfold cm;simp only[kK];split<;>simp[*]
theorem H2(c:Int)  :
  if decide ((48:Int)<=c)=true then True/\decide (c<=(57:Int))=bS c/\True else True/\false=bS c/\True:=by
 unfold bS;simp only[kK];split<;>simp[*]
theorem IC(c:Int)  :
  let A:=True/\true=ep c/\True;if bZ c=true then A else if cm c=true then A else if bS c=true then A else True/\decide (c=(95:Int))=ep c/\True:=by
 conv=>zeta
 unfold ep;cases bZ c<;>cases cm c<;>cases bS c<;>simp
theorem Ec(s:Str)(hs:Wf .str s) :
  let A:=True/\false=cW bZ s/\True;let B:=(↑(List.length s):Int);let C:=(0:Int);let D:=s=s/\false=false/\B=B/\True;if decide (s=[])=true then A else if decide ((24:Int)<B)=true then A else(C<=C/\C<B)/\if(!bZ (↑(UInt8.toNat (List.getD s (Int.toNat C) (0:UInt8))):Int))=true then A else(∃(x:Nat),(x<=List.length s/\cW bZ s=List.all (List.drop x s) fun(c:UInt8)=>ep (bI c))/\C=(↑x:Int)/\D)/\∀(x:Nat),let E:=(↑x:Int);(x<=List.length s/\cW bZ s=List.all (List.drop x s) fun(c:UInt8)=>ep (bI c))->if decide (E<B)=true then(C<=E/\E<B)/\if(!ep (↑(UInt8.toNat (List.getD s (Int.toNat E) (0:UInt8))):Int))=true then A else inR IntKind.i64 (E+(1:Int))/\∃(y:Nat),(y<=List.length s/\cW bZ s=List.all (List.drop y s) fun(c:UInt8)=>ep (bI c))/\List.length s-y<List.length s-x/\E+(1:Int)=(↑y:Int)/\D else True/\true=cW bZ s/\True:=by
 conv=>zeta
 have hlen:=hs.str;have eb:∀b:UInt8,(b.toNat:Int)=bI b:=fun _=>rfl;simp only[kK,Kh,Mx,KV,KI,eb,cW];generalize bZ (bI (s.getD 0 0))=f0;by_cases h0:s=[]
 ·simp[h0]
 have hpos:0<s.length:=Ls.2 h0;by_cases h1:s.length<=24
 ·rw[Kb h0,Kb (by omega)];refine⟨by omega,?_⟩
  cases f0 with
  |false=>simp
  |true=>
   simp only[MX,Lg,KP,h0,h1,N8,decide_true,ML,KC];refine⟨⟨0,⟨by omega,rfl⟩,rfl⟩,?_⟩;rintro k ⟨h3,h4⟩;split
   ·have hk:k<s.length:=by omega
    rw[ai s k 0 hk,KR]at h4;generalize ep (bI (s.getD k 0))=r at h4⊢;refine⟨by omega,?_⟩
    cases r with|false=>simpa using h4.symm|true=>simp only[MX,Lg,KP];exact⟨aw hk hlen,k+1,⟨by omega,by simpa using h4⟩,by omega,by omega⟩
   ·have hk:k=s.length:=by omega
    subst hk;simpa using h4.symm
 ·rw[Kb h0,Kf (by omega)];simp[h1]
theorem Ed(s:Str)(hs:Wf .str s) :
  let A:=True/\false=cW cm s/\True;let B:=(↑(List.length s):Int);let C:=(0:Int);let D:=s=s/\false=false/\B=B/\True;if decide (s=[])=true then A else if decide ((24:Int)<B)=true then A else(C<=C/\C<B)/\if(!cm (↑(UInt8.toNat (List.getD s (Int.toNat C) (0:UInt8))):Int))=true then A else(∃(x:Nat),(x<=List.length s/\cW cm s=List.all (List.drop x s) fun(c:UInt8)=>ep (bI c))/\C=(↑x:Int)/\D)/\∀(x:Nat),let E:=(↑x:Int);(x<=List.length s/\cW cm s=List.all (List.drop x s) fun(c:UInt8)=>ep (bI c))->if decide (E<B)=true then(C<=E/\E<B)/\if(!ep (↑(UInt8.toNat (List.getD s (Int.toNat E) (0:UInt8))):Int))=true then A else inR IntKind.i64 (E+(1:Int))/\∃(y:Nat),(y<=List.length s/\cW cm s=List.all (List.drop y s) fun(c:UInt8)=>ep (bI c))/\List.length s-y<List.length s-x/\E+(1:Int)=(↑y:Int)/\D else True/\true=cW cm s/\True:=by
 conv=>zeta
 have hlen:=hs.str;have eb:∀b:UInt8,(b.toNat:Int)=bI b:=fun _=>rfl;simp only[kK,Kh,Mx,KV,KI,eb,cW];generalize cm (bI (s.getD 0 0))=f0;by_cases h0:s=[]
 ·simp[h0]
 have hpos:0<s.length:=Ls.2 h0;by_cases h1:s.length<=24
 ·rw[Kb h0,Kb (by omega)];refine⟨by omega,?_⟩
  cases f0 with
  |false=>simp
  |true=>
   simp only[MX,Lg,KP,h0,h1,N8,decide_true,ML,KC];refine⟨⟨0,⟨by omega,rfl⟩,rfl⟩,?_⟩;rintro k ⟨h3,h4⟩;split
   ·have hk:k<s.length:=by omega
    rw[ai s k 0 hk,KR]at h4;generalize ep (bI (s.getD k 0))=r at h4⊢;refine⟨by omega,?_⟩
    cases r with|false=>simpa using h4.symm|true=>simp only[MX,Lg,KP];exact⟨aw hk hlen,k+1,⟨by omega,by simpa using h4⟩,by omega,by omega⟩
   ·have hk:k=s.length:=by omega
    subst hk;simpa using h4.symm
 ·rw[Kb h0,Kf (by omega)];simp[h1]
theorem ID(s:Str)  :
  let A:=101;let B:=True/\true=nf s/\True;if decide (s=([109,111,100,117,108,A]:Str))=true then B else if decide (s=([105,109,112,111,114,116]:Str))=true then B else if decide (s=([112,105,110]:Str))=true then B else if decide (s=([114,97,110,103,A]:Str))=true then B else if decide (s=([116,121,112,A]:Str))=true then B else if decide (s=([111,112,97,113,117,A]:Str))=true then B else if decide (s=([108,A,116]:Str))=true then B else if decide (s=([105,110]:Str))=true then B else if decide (s=([A,120,112,111,114,116]:Str))=true then B else if decide (s=([102,117,110]:Str))=true then B else if decide (s=([105,102]:Str))=true then B else if decide (s=([116,104,A,110]:Str))=true then B else if decide (s=([A,108,115,A]:Str))=true then B else if decide (s=([99,97,115,A]:Str))=true then B else if decide (s=([111,102]:Str))=true then B else if decide (s=([97,115]:Str))=true then B else if decide (s=([110,A,119]:Str))=true then B else if decide (s=([114,97,119]:Str))=true then B else if decide (s=([116,114,117,A]:Str))=true then B else if decide (s=([102,97,108,115,A]:Str))=true then B else True/\false=nf s/\True:=by
 conv=>zeta
 refine aa (fun h=>?_) (fun h0=>?_)
 ·rw[Xo h];exact Xr
 refine aa (fun h=>?_) (fun h1=>?_)
 ·rw[Xo h];exact Xr
 refine aa (fun h=>?_) (fun h2=>?_)
 ·rw[Xo h];exact Xr
 refine aa (fun h=>?_) (fun h3=>?_)
 ·rw[Xo h];exact Xr
 refine aa (fun h=>?_) (fun h4=>?_)
 ·rw[Xo h];exact Xr
 refine aa (fun h=>?_) (fun h5=>?_)
 ·rw[Xo h];exact Xr
 refine aa (fun h=>?_) (fun h6=>?_)
 ·rw[Xo h];exact Xr
 refine aa (fun h=>?_) (fun h7=>?_)
 ·rw[Xo h];exact Xr
 refine aa (fun h=>?_) (fun h8=>?_)
 ·rw[Xo h];exact Xr
 refine aa (fun h=>?_) (fun h9=>?_)
 ·rw[Xo h];exact Xr
 refine aa (fun h=>?_) (fun h10=>?_)
 ·rw[Xo h];exact Xr
 refine aa (fun h=>?_) (fun h11=>?_)
 ·rw[Xo h];exact Xr
 refine aa (fun h=>?_) (fun h12=>?_)
 ·rw[Xo h];exact Xr
 refine aa (fun h=>?_) (fun h13=>?_)
 ·rw[Xo h];exact Xr
 refine aa (fun h=>?_) (fun h14=>?_)
 ·rw[Xo h];exact Xr
 refine aa (fun h=>?_) (fun h15=>?_)
 ·rw[Xo h];exact Xr
 refine aa (fun h=>?_) (fun h16=>?_)
 ·rw[Xo h];exact Xr
 refine aa (fun h=>?_) (fun h17=>?_)
 ·rw[Xo h];exact Xr
 refine aa (fun h=>?_) (fun h18=>?_)
 ·rw[Xo h];exact Xr
 refine aa (fun h=>?_) (fun h19=>?_)
 ·rw[Xo h];exact Xr
 refine⟨trivial,?_,trivial⟩;symm;refine Xf fun hm=>?_;unfold IX at hm;rcases Ks.1 hm with e|hm
 ·exact h0 (Xd e)
 rcases Ks.1 hm with e|hm
 ·exact h1 (Xd e)
 rcases Ks.1 hm with e|hm
 ·exact h2 (Xd e)
 rcases Ks.1 hm with e|hm
 ·exact h3 (Xd e)
 rcases Ks.1 hm with e|hm
 ·exact h4 (Xd e)
 rcases Ks.1 hm with e|hm
 ·exact h5 (Xd e)
 rcases Ks.1 hm with e|hm
 ·exact h6 (Xd e)
 rcases Ks.1 hm with e|hm
 ·exact h7 (Xd e)
 rcases Ks.1 hm with e|hm
 ·exact h8 (Xd e)
 rcases Ks.1 hm with e|hm
 ·exact h9 (Xd e)
 rcases Ks.1 hm with e|hm
 ·exact h10 (Xd e)
 rcases Ks.1 hm with e|hm
 ·exact h11 (Xd e)
 rcases Ks.1 hm with e|hm
 ·exact h12 (Xd e)
 rcases Ks.1 hm with e|hm
 ·exact h13 (Xd e)
 rcases Ks.1 hm with e|hm
 ·exact h14 (Xd e)
 rcases Ks.1 hm with e|hm
 ·exact h15 (Xd e)
 rcases Ks.1 hm with e|hm
 ·exact h16 (Xd e)
 rcases Ks.1 hm with e|hm
 ·exact h17 (Xd e)
 rcases Ks.1 hm with e|hm
 ·exact h18 (Xd e)
 rcases Ks.1 hm with e|hm
 ·exact h19 (Xd e)
 exact absurd hm Mf
theorem IE(s:Str)  :
  if cW bZ s=true then True/\(!nf s)=au s/\True else True/\false=au s/\True:=by
 unfold au;cases cW bZ s<;>simp
theorem H3(s:Str)  :
  True/\cW cm s=bO s/\True:=by
 simp[bO]
theorem H4(s:Str)  :
  let A:=True/\true=kM s/\True;if decide (s=([73,110,116]:Str))=true then A else if decide (s=([66,111,111,108]:Str))=true then A else if decide (s=([84,101,120,116]:Str))=true then A else True/\decide (s=([65,110,121]:Str))=kM s/\True:=by
 conv=>zeta
 simp only[Lt,KV,KI,kM];by_cases a:s=[73,110,116]<;>by_cases b:s=[66,111,111,108]<;>by_cases c:s=[84,101,120,116]<;>by_cases d:s=[65,110,121]<;>simp[a,b,c,d]
theorem Ee(a:List Str)  :
  True/\a=a/\True:=by
 trivial
end Go.AL.Seat
end
