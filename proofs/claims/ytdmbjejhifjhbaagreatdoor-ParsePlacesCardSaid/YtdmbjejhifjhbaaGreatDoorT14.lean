/- Plain facts. No condition. -/
import Derived.Test.YtdmbjejhifjhbaaGreatDoorT13
import Derived.Lib.DecodeN
import Derived.LoopIn
import Derived.LoopNIn
import Derived.OwnWalkIn
import Derived.RangeFuncBox
import Derived.RangeFuncLeaves
import Derived.Shelf.SlIter.Sorted
import Derived.Shelf.Slices.CompactS
import Derived.Shelf.Small.Strs
import Derived.Shelf.Sort.Plain
import Derived.Shelf.Strconv.Atoi
import Derived.Shelf.Strings.Cut
import Derived.Shelf.Strings.Search3
import Derived.Shelf.Strings.SlTrimAscii
import Derived.Shelf.Strings.Split
import Derived.Shelf.Unicode.DecodeAny
import Derived.Shelf.Unicode.ValidAny
import Derived.TacticsInMore
import Derived.Test.YtdmbjejhifjhbaaGreatDoorProg
import Derived.WalkKit
set_option linter.unusedVariables false
set_option linter.unusedSimpArgs false
set_option linter.unnecessarySimpa false
set_option linter.deprecated false
set_option linter.unusedSectionVars false
set_option maxRecDepth 100000
section
namespace Go.Pd
open Go.AL
theorem Du (b:UInt8):0<=bI b/\bI b<=255:=by
 have:=b.toNat_lt
 unfold bI
 omega
theorem bT {pr:Int→Bool} {s:Str} {a:Int} (h0:0<=a) (h1:a < (s.length:Int)) (h:pr (bI (s.getD a.toNat 0))=true):ae pr s a=1+ae pr s (a+1):=by
 unfold ae
 have hk:a.toNat < s.length:=by omega
 rw [bf s a.toNat 0 hk,List.takeWhile_cons,h]
 have e:(a+1).toNat=a.toNat+1:=by omega
 simp only [if_true,List.length_cons,e]
 omega
theorem fq {pr:Int→Bool} {s:Str} {a:Int} (h0:0<=a) (h1:a < (s.length:Int)) (h:pr (bI (s.getD a.toNat 0))=false):ae pr s a=0:=by
 unfold ae
 have hk:a.toNat < s.length:=by omega
 rw [bf s a.toNat 0 hk,List.takeWhile_cons,h]
 simp
theorem gd {pr:Int→Bool} {s:Str} {a:Int} (h1:(s.length:Int)<=a):ae pr s a=0:=by
 unfold ae
 rw [List.drop_eq_nil_of_le (by omega)]
 simp
theorem cQ {pr:Int→Bool} {s:Str} {a:Int} (h0:0<=a) (h1:a<=(s.length:Int)):a+(ae pr s a:Int)<=(s.length:Int):=by
 have h:ae pr s a<=(s.drop a.toNat).length:=by unfold ae;exact (List.takeWhile_sublist _).length_le
 rw [List.length_drop] at h
 omega
theorem jQ {s:Str} {a:Int} (h:a < (s.length:Int)):bAt s a=bI (s.getD a.toNat 0):=by unfold bAt;rw [if_pos h]
theorem pl {s:Str} {a:Int} (h:(s.length:Int)<=a):bAt s a=0:=by unfold bAt;rw [if_neg (by omega)]
theorem pm {s:Str} {a b:Int} (h0:0<=a) (h1:a<=b) (h2:b<=(s.length:Int)):((cut s a b).length:Int)=b - a:=by
 unfold cut
 rw [List.length_drop,List.length_take]
 omega
end Go.Pd
namespace Go.Pd
open Go.AL
def oU:Str:=[48,49,50,51,52,53,54,55,56,57]
def dL (b:UInt8):Bool:=aK (bI b)
def lS (s:Str):Str:=(s.reverse.dropWhile dL).reverse.dropWhile dL
def nV (s:Str) (c:Int):Int:=cd (fun b=>!decide (bI b=c)) s 0
def gU (s:Str):Nat × Nat:=if s=[] then (65533,0) else Lib.decodeN s.length (s.getD 0 0).toNat (s.getD 1 0).toNat (s.getD 2 0).toNat (s.getD 3 0).toNat
theorem lT {p:UInt8→Bool}:∀{l:Str},l.dropWhile p=[]↔l.all p=true
 | []=>by simp
 | b ::r=>by
  rw [List.dropWhile_cons]
  split
  ·rename_i h
   rw [lT,List.all_cons,h,Bool.true_and]
  ·rename_i h
   simp [h]
theorem lU {p:UInt8→Bool}:∀(l:Str),(l.dropWhile p).all p=l.all p
 | []=>rfl
 | b ::r=>by
  rw [List.dropWhile_cons]
  split
  ·rename_i h
   rw [lU r,List.all_cons,h,Bool.true_and]
  ·rfl
theorem sl (s:Str):lS s=[]↔s.all dL=true:=by
 unfold lS
 rw [lT,List.all_reverse,lU,List.all_reverse]
theorem Dv (s:Str):(lS s).length<=s.length:=by
 unfold lS
 have h1:=(List.dropWhile_sublist (p:=dL) (l:=(s.reverse.dropWhile dL).reverse)).length_le
 have h2:=(List.dropWhile_sublist (p:=dL) (l:=s.reverse)).length_le
 rw [List.length_reverse] at h1 h2
 omega
theorem jR (s:Str) (k:Nat):(s.drop k).getD 0 0=s.getD k 0:=by simp [List.getD_eq_getElem?_getD]
def kO (n b0 b1 b2 b3:Nat):Nat:=
 if b0 < 128 then 1
 else if b0 / 32=6/\(1 < n/\b1 / 64=2) then (if b0 % 32 *64+b1 % 64≥128 then 2 else 0)
 else if b0 / 16=14/\(1 < n/\b1 / 64=2)/\(2 < n/\b2 / 64=2) then
  (if b0 % 16 *4096+b1 % 64 *64+b2 % 64≥2048/\(b0 % 16 *4096+b1 % 64 *64+b2 % 64 < 55296∨(57344<=b0 % 16 *4096+b1 % 64 *64+b2 % 64/\b0 % 16 *4096+b1 % 64 *64+b2 % 64<=1114111)) then 3 else 0)
 else if b0 / 8=30/\(1 < n/\b1 / 64=2)/\(2 < n/\b2 / 64=2)/\(3 < n/\b3 / 64=2) then
  (if b0 % 8 *262144+b1 % 64 *4096+b2 % 64 *64+b3 % 64≥65536/\(b0 % 8 *262144+b1 % 64 *4096+b2 % 64 *64+b3 % 64 < 55296∨(57344<=b0 % 8 *262144+b1 % 64 *4096+b2 % 64 *64+b3 % 64/\b0 % 8 *262144+b1 % 64 *4096+b2 % 64 *64+b3 % 64<=1114111)) then 4 else 0)
 else 0
theorem vG (n b0 b1 b2 b3:Nat) (h1:b1 < 256) (h2:b2 < 256) (h3:b3 < 256) (h0:b0 < 256) (hn:1<=n) :
  ((Lib.decodeN n b0 b1 b2 b3).1=65533/\(Lib.decodeN n b0 b1 b2 b3).2=1↔kO n b0 b1 b2 b3=0)/\(kO n b0 b1 b2 b3≠0→(Lib.decodeN n b0 b1 b2 b3).2=kO n b0 b1 b2 b3)/\
  (Lib.decodeN n b0 b1 b2 b3).1<=1114111/\1<=(Lib.decodeN n b0 b1 b2 b3).2/\(Lib.decodeN n b0 b1 b2 b3).2<=n:=by
 unfold Lib.decodeN kO
 by_cases c1:b0 < 128
 ·simp only [if_pos c1];refine ⟨⟨fun e=>?_,fun e=>?_⟩,fun e=>?_,?_,?_,?_⟩ <;> first | omega | exact ⟨rfl,rfl⟩ | exact ⟨trivial,trivial⟩ | exact (e rfl).elim | exact e.elim | exact (e trivial).elim | simp only at *
 simp only [if_neg c1]
 by_cases c2:b0 / 32=6/\(1 < n/\b1 / 64=2)
 ·simp only [if_pos c2]
  by_cases d:b0 % 32 *64+b1 % 64≥128
  ·simp only [if_pos d];refine ⟨⟨fun e=>?_,fun e=>?_⟩,fun e=>?_,?_,?_,?_⟩ <;> first | omega | exact ⟨rfl,rfl⟩ | exact ⟨trivial,trivial⟩ | exact (e rfl).elim | exact e.elim | exact (e trivial).elim | simp only at *
  ·simp only [if_neg d];refine ⟨⟨fun e=>?_,fun e=>?_⟩,fun e=>?_,?_,?_,?_⟩ <;> first | omega | exact ⟨rfl,rfl⟩ | exact ⟨trivial,trivial⟩ | exact (e rfl).elim | exact e.elim | exact (e trivial).elim | simp only at *
 simp only [if_neg c2]
 by_cases c3:b0 / 16=14/\(1 < n/\b1 / 64=2)/\(2 < n/\b2 / 64=2)
 ·simp only [if_pos c3]
  by_cases d:b0 % 16 *4096+b1 % 64 *64+b2 % 64≥2048/\(b0 % 16 *4096+b1 % 64 *64+b2 % 64 < 55296∨(57344<=b0 % 16 *4096+b1 % 64 *64+b2 % 64/\b0 % 16 *4096+b1 % 64 *64+b2 % 64<=1114111))
  ·simp only [if_pos d];refine ⟨⟨fun e=>?_,fun e=>?_⟩,fun e=>?_,?_,?_,?_⟩ <;> first | omega | exact ⟨rfl,rfl⟩ | exact ⟨trivial,trivial⟩ | exact (e rfl).elim | exact e.elim | exact (e trivial).elim | simp only at *
  ·simp only [if_neg d];refine ⟨⟨fun e=>?_,fun e=>?_⟩,fun e=>?_,?_,?_,?_⟩ <;> first | omega | exact ⟨rfl,rfl⟩ | exact ⟨trivial,trivial⟩ | exact (e rfl).elim | exact e.elim | exact (e trivial).elim | simp only at *
 simp only [if_neg c3]
 by_cases c4:b0 / 8=30/\(1 < n/\b1 / 64=2)/\(2 < n/\b2 / 64=2)/\(3 < n/\b3 / 64=2)
 ·simp only [if_pos c4]
  by_cases d:b0 % 8 *262144+b1 % 64 *4096+b2 % 64 *64+b3 % 64≥65536/\(b0 % 8 *262144+b1 % 64 *4096+b2 % 64 *64+b3 % 64 < 55296∨(57344<=b0 % 8 *262144+b1 % 64 *4096+b2 % 64 *64+b3 % 64/\b0 % 8 *262144+b1 % 64 *4096+b2 % 64 *64+b3 % 64<=1114111))
  ·simp only [if_pos d];refine ⟨⟨fun e=>?_,fun e=>?_⟩,fun e=>?_,?_,?_,?_⟩ <;> first | omega | exact ⟨rfl,rfl⟩ | exact ⟨trivial,trivial⟩ | exact (e rfl).elim | exact e.elim | exact (e trivial).elim | simp only at *
  ·simp only [if_neg d];refine ⟨⟨fun e=>?_,fun e=>?_⟩,fun e=>?_,?_,?_,?_⟩ <;> first | omega | exact ⟨rfl,rfl⟩ | exact ⟨trivial,trivial⟩ | exact (e rfl).elim | exact e.elim | exact (e trivial).elim | simp only at *
 simp only [if_neg c4]
 refine ⟨⟨fun e=>?_,fun e=>?_⟩,fun e=>?_,?_,?_,?_⟩ <;> first | omega | exact ⟨rfl,rfl⟩ | exact ⟨trivial,trivial⟩ | exact (e rfl).elim | exact e.elim | exact (e trivial).elim | simp only at *
theorem vH (c:Nat):pj c=true↔(c < 55296∨(57344<=c/\c<=1114111)):=by
 unfold pj
 simp only [Bool.and_eq_true,decide_eq_true_eq,Bool.not_eq_true',Bool.and_eq_false_iff,decide_eq_false_iff_not]
 omega
theorem B3 (r:Str) (k:Nat):nd r k=true↔(k+1 < r.length+1/\(r.getD k 0).toNat / 64=2):=by
 unfold nd
 simp only [Bool.and_eq_true,decide_eq_true_eq]
 omega
theorem Dw (b:UInt8) (r:Str):ce (b ::r)=kO (r.length+1) b.toNat (r.getD 0 0).toNat (r.getD 1 0).toNat (r.getD 2 0).toNat:=by
 unfold ce kO nU
 simp only [B3,vH]
theorem jp {s:Str} (h:s≠[]):((gU s).1=65533/\(gU s).2=1↔ce s=0)/\(ce s≠0→(gU s).2=ce s)/\(gU s).1<=1114111/\1<=(gU s).2/\(gU s).2<=s.length:=by
 cases s with
 | nil=>exact absurd rfl h
 | cons b r=>
  have e:gU (b ::r)=Lib.decodeN (r.length+1) b.toNat (r.getD 0 0).toNat (r.getD 1 0).toNat (r.getD 2 0).toNat:=by
   unfold gU
   rw [if_neg h]
   rfl
  rw [e,Dw,List.length_cons]
  exact vG _ _ _ _ _ (r.getD 0 0).toNat_lt (r.getD 1 0).toNat_lt (r.getD 2 0).toNat_lt b.toNat_lt (by omega)
theorem qx:∀(f g:Nat) (x:Str) (k:Nat),x.length<=f→x.length<=g→iE f x k=iE g x k
 | 0,0,_,_,_,_=>rfl
 | 0,g+1,x,k,h,_=>by
  have e:x=[]:=List.eq_nil_of_length_eq_zero (by omega)
  subst e
  simp [iE]
 | f+1,0,x,k,_,h=>by
  have e:x=[]:=List.eq_nil_of_length_eq_zero (by omega)
  subst e
  simp [iE]
 | f+1,g+1,x,k,h1,h2=>by
  simp only [iE]
  split
  ·rfl
  ·rename_i hx
   split
   ·rfl
   ·rename_i hn
    have hl:(x.drop (ce x)).length < x.length:=by
     rw [List.length_drop]
     have:=List.length_pos_iff.2 hx
     omega
    exact qx f g _ _ (by omega) (by omega)
def fI (s:Str) (a:Nat):Option Nat:=iE s.length (s.drop a) a
theorem qy (s:Str):fI s 0=cu s:=rfl
theorem nW {s:Str} {a:Nat} (h:s.length<=a):fI s a=none:=by
 unfold fI
 rw [List.drop_eq_nil_of_le h]
 cases s.length <;> simp [iE]
theorem nX {s:Str} {a:Nat} (h:a < s.length) (hb:ce (s.drop a)=0):fI s a=some a:=by
 unfold fI
 obtain ⟨n,hn⟩:∃n,s.length=n+1:=⟨s.length - 1,by omega⟩
 have hx:s.drop a≠[]:=by
  intro e
  have:=congrArg List.length e
  simp at this
  omega
 rw [hn,iE,if_neg hx,if_pos hb]
theorem jS {s:Str} {a:Nat} (h:a < s.length) (hb:ce (s.drop a)≠0):fI s a=fI s (a+ce (s.drop a)):=by
 unfold fI
 obtain ⟨n,hn⟩:∃n,s.length=n+1:=⟨s.length - 1,by omega⟩
 have hx:s.drop a≠[]:=by
  intro e
  have:=congrArg List.length e
  simp at this
  omega
 rw [hn,iE,if_neg hx,if_neg hb,List.drop_drop]
 refine qx _ _ _ _ ?_ ?_ <;> (rw [List.length_drop];omega)
end Go.Pd
namespace Go.Pd
open Go.AL
def u5 (s:Str):Flt:=match cu s with | none=>⟨0,0⟩ | some k=>⟨30,k⟩
def nf (s:Str) (k:Nat):List Int:=[if 0 < k then (dr s).major else 0,if 1 < k then (dr s).minor else 0,if 2 < k then (dr s).patch else 0]
end Go.Pd
namespace Go.Pd
open Go.AL
theorem kP (c:Int):eV c=true↔(48<=c/\c<=57)∨(97<=c/\c<=122)∨(65<=c/\c<=90)∨c=45:=by
 unfold eV aK bq bw
 simp only [Bool.or_eq_true,Bool.and_eq_true,decide_eq_true_eq]
 omega
theorem jq {s:Str} (h:s≠[]) (hz:(bG s && decide (bI (s.getD 0 0)=48) && !decide (s=[48]))=false):cv s=s.all fun c=>eV (bI c):=by
 unfold cv
 rw [hz,Xf h]
 simp
end Go.Pd
namespace Go.Pd
open Go.AL
theorem gn (c:UInt8):∀s:Str,(splitB c s).length<=s.length+1
 | []=>by simp [splitB]
 | b ::r=>by
  have ih:=gn c r
  unfold splitB
  split
  ·simp only [List.length_cons];omega
  ·split
   ·simp
   ·rename_i e
    rw [e] at ih
    simp only [List.length_cons] at ih ⊢
    omega
theorem gq {α:Type} {p:α→Bool} {l:List α} {k:Nat} (d:α) (hk:k < l.length) (h:(l.take k).all p=true) (hp:p (l.getD k d)=true):(l.take (k+1)).all p=true:=by
 rw [nR l k d hk,List.all_append,h,List.all_cons,hp]
 rfl
theorem qz {α:Type} {p:α→Bool} {l:List α} {k:Nat} (h:l.length<=k):(l.take k).all p=l.all p:=by rw [List.take_of_length_le h]
theorem ng {α:Type} {p:α→Bool} {l:List α} {k:Nat} (d:α) (hk:k < l.length) (hp:p (l.getD k d)=false):l.all p=false:=by
 rw [Bool.eq_false_iff]
 intro e
 have:=List.all_eq_true.1 e _ (eU l k d hk)
 rw [this] at hp
 cases hp
def oV (n:Int):Bool:=decide (0<=n) && decide (n<=999999)
theorem xZ {v:Vers} (h:[v.major,v.minor,v.patch].all oV=false):bz v=40:=by
 unfold bz
 rw [if_pos]
 simp only [List.all_cons,List.all_nil,Bool.and_true,Bool.and_eq_false_iff,oV,decide_eq_false_iff_not] at h
 omega
theorem vI {v:Vers} (h:[v.major,v.minor,v.patch].all oV=true):bz v=if 24 < v.pre.length then 40 else if v.pre=[] then 0 else if (splitB 46 v.pre).all cv=true then 0 else 40:=by
 unfold bz
 rw [if_neg]
 simp only [List.all_cons,List.all_nil,Bool.and_true,Bool.and_eq_true,oV,decide_eq_true_eq] at h
 omega
end Go.Pd
namespace Go.Pd
open Go.AL
theorem oG {s:Str} (h:¬(splitB 46 (aC s)).length=3):bQ s=(noV,40):=by unfold bQ;rw [if_pos (.inl h)]
theorem oH {s:Str} (h:dI s=true) (k:cg s=[]):bQ s=(noV,40):=by unfold bQ;rw [if_pos (.inr ⟨h,k⟩)]
theorem iS {s:Str} (h:(splitB 46 (aC s)).length=3) (k:dI s=true→¬cg s=[]) :
  bQ s=if (splitB 46 (aC s)).all dX=true then (if bz (dr s)=0 then (dr s,0) else (noV,40)) else (noV,40):=by
 unfold bQ
 rw [if_neg]
 rintro (e | ⟨e1,e2⟩)
 ·exact e h
 ·exact k e1 e2
theorem qA (v:Vers):bz v=0∨bz v=40:=by
 unfold bz
 repeat' split
 all_goals first | exact .inl rfl | exact .inr rfl
theorem vJ {s:Str} {k:Nat} (hk:k < 3):(nf s k).set k (jl ((splitB 46 (aC s)).getD k []))=nf s (k+1):=by
 match k,hk with
 | 0,_=>rfl
 | 1,_=>rfl
 | 2,_=>rfl
theorem gF {t:Str} (h:bG t=true) (hl:t.length<=15):kc t:=by
 unfold bG at h
 rw [Bool.and_eq_true] at h
 refine ⟨fun e=>by rw [e] at h;simp at h,hl,fun c hc=>?_⟩
 have:=List.all_eq_true.1 h.2 c hc
 unfold aK bI at this
 simp only [Bool.and_eq_true,decide_eq_true_eq] at this
 omega
theorem sm (s:Str):(aC s).length<=s.length:=(List.takeWhile_sublist _).length_le
end Go.Pd
namespace Go.Pd
open Go.AL
theorem mm:∀s:Str,(aB s).map (fun n=>UInt8.ofNat n.toNat)=s
 | []=>rfl
 | b ::r=>by
  have ih:=mm r
  unfold aB at ih ⊢
  simp only [List.map_cons,ih]
  congr 1
  simp
theorem dT (a b:Str):aB (a++b)=aB a++aB b:=List.map_append
theorem Dx {b:Int} (h:gQ b=none):nV [110,116,34,92] b < 0:=by
 unfold gQ at h
 by_cases h1:b=110
 ·rw [if_pos h1] at h;cases h
 rw [if_neg h1] at h
 by_cases h2:b=116
 ·rw [if_pos h2] at h;cases h
 rw [if_neg h2] at h
 by_cases h3:b=34
 ·rw [if_pos h3] at h;cases h
 rw [if_neg h3] at h
 by_cases h4:b=92
 ·rw [if_pos h4] at h;cases h
 have e1:¬(bI 110=b):=fun e=>h1 e.symm
 have e2:¬(bI 116=b):=fun e=>h2 e.symm
 have e3:¬(bI 34=b):=fun e=>h3 e.symm
 have e4:¬(bI 92=b):=fun e=>h4 e.symm
 simp [nV,cd,e1,e2,e3,e4]
theorem Dy {b x:Int} (h:gQ b=some x):0<=nV [110,116,34,92] b/\nV [110,116,34,92] b < 4/\[(10:UInt8),9,34,92].getD (nV [110,116,34,92] b).toNat 0=UInt8.ofNat x.toNat:=by
 unfold gQ at h
 by_cases h1:b=110
 ·rw [if_pos h1] at h;cases h;subst h1;decide
 rw [if_neg h1] at h
 by_cases h2:b=116
 ·rw [if_pos h2] at h;cases h;subst h2;decide
 rw [if_neg h2] at h
 by_cases h3:b=34
 ·rw [if_pos h3] at h;cases h;subst h3;decide
 rw [if_neg h3] at h
 by_cases h4:b=92
 ·rw [if_pos h4] at h;cases h;subst h4;decide
 rw [if_neg h4] at h
 cases h
theorem nY {s:Str} {a x:Int} (h:gQ (bAt s a)=some x):a < (s.length:Int):=by
 rcases Int.lt_or_le a s.length with k | k
 ·exact k
 ·rw [pl k] at h
  cases h
theorem nZ {s:Str} {a:Int} (h0:¬bAt s a < 32) (h1:¬bAt s a=34) (h2:¬bAt s a=92):a < (s.length:Int)/\(0<=a→1<=ae aI s a):=by
 have hl:a < (s.length:Int):=by
  rcases Int.lt_or_le a s.length with k | k
  ·exact k
  ·rw [pl k] at h0;omega
 refine ⟨hl,fun h=>?_⟩
 rw [jQ hl] at h0 h1 h2
 rw [bT h hl (by
  unfold aI
  rw [Xd (by omega),Xf h1,Xf h2]
  rfl)]
 omega
theorem B4 {x:Str} (h:cu x=none):u5 x=⟨0,0⟩:=by unfold u5;rw [h]
theorem B5 {x:Str} {k:Nat} (h:cu x=some k):u5 x=⟨30,k⟩:=by unfold u5;rw [h]
theorem vK:∀(f:Nat) (x:Str) (a k:Nat),iE f x a=some k→k<=a+x.length
 | 0,_,_,_,h=>by cases h
 | f+1,x,a,k,h=>by
  simp only [iE] at h
  split at h
  ·cases h
  ·split at h
   ·cases h;omega
   ·rename_i h1 h2
    have ih:=vK f _ _ _ h
    rw [List.length_drop] at ih
    have:=(jp h1).2.1 h2
    have:=(jp h1).2.2.2.2
    omega
theorem B6 {x:Str} {k:Nat} (h:cu x=some k):k<=x.length:=by have:=vK _ _ _ _ h;omega
end Go.Pd
namespace Go.Pd
open Go.AL
theorem pn {s:Str} {a:Int} (h:bAt s a≠0):a < (s.length:Int):=by
 rcases Int.lt_or_le a s.length with k | k
 ·exact k
 ·rw [pl k] at h
  exact absurd rfl h
theorem eX (s:Str) (fr:Int):∀(n:Nat) (acc:Str) (c:SC),0<=c.pos→c.pos<=(s.length:Int)→
  (bZ s fr n acc c).2.2.out=c.out/\c.pos<=(bZ s fr n acc c).2.2.pos/\(bZ s fr n acc c).2.2.pos<=(s.length:Int)
 | 0,acc,c,h0,h1=>⟨rfl,Int.le_refl _,h1⟩
 | n+1,acc,c,h0,h1=>by
  rw [bZ]
  by_cases a:bAt s c.pos < 32
  ·rw [if_pos a]
   exact ⟨rfl,Int.le_refl _,h1⟩
  rw [if_neg a]
  have hl:=pn (s:=s) (a:=c.pos) (fun e=>by rw [e] at a;omega)
  by_cases b:bAt s c.pos=34
  ·rw [if_pos b]
   exact ⟨rfl,by show c.pos<=c.pos+1;omega,by show c.pos+1<=_;omega⟩
  rw [if_neg b]
  by_cases d:bAt s c.pos=92
  ·rw [if_pos d]
   cases he:gQ (bAt s (c.pos+1)) with
   | none=>exact ⟨rfl,Int.le_refl _,h1⟩
   | some x=>
    have hp:=nY he
    obtain ⟨i1,i2,i3⟩:=eX s fr n (acc++[UInt8.ofNat x.toNat]) (bS c (c.pos+2)) (by show 0<=c.pos+2;omega) (by show c.pos+2<=_;omega)
    have i2':c.pos+2<=_:=i2
    exact ⟨i1,by simp only;omega,i3⟩
  rw [if_neg d]
  have hw:=cQ (pr:=aI) h0 h1
  cases hb:cu (cut s c.pos (c.pos+(ae aI s c.pos:Int))) with
  | some k=>exact ⟨rfl,by show c.pos<=c.pos+(ae aI s c.pos:Int);omega,hw⟩
  | none=>
   obtain ⟨i1,i2,i3⟩:=eX s fr n (acc++cut s c.pos (c.pos+(ae aI s c.pos:Int))) (bS c (c.pos+(ae aI s c.pos:Int))) (by show 0<=c.pos+_;omega) hw
   have i2':c.pos+(ae aI s c.pos:Int)<=_:=i2
   exact ⟨i1,by simp only;omega,i3⟩
theorem fJ {s:Str} {c:SC} (h0:0<=c.pos) (h1:c.pos < (s.length:Int)) (h:(aN s c).1=true) :
  c.pos < (aN s c).2.pos/\(aN s c).2.pos<=(s.length:Int)/\(aN s c).2.out.length=c.out.length+1:=by
 have add:∀(k:Int) (t:Str) (e:Int),c.pos < e→e<=(s.length:Int)→c.pos < (gE k t c.pos (bS c e)).2.pos/\(gE k t c.pos (bS c e)).2.pos<=(s.length:Int)/\(gE k t c.pos (bS c e)).2.out.length=c.out.length+1:=fun k t e a b=>
  ⟨a,b,by show (c.out++[_]).length=_;rw [List.length_append,List.length_singleton]⟩
 unfold aN at h ⊢
 by_cases a:bq (bAt s c.pos)=true∨bw (bAt s c.pos)=true
 ·rw [if_pos a] at h ⊢
  have hr:bp (bI (s.getD c.pos.toNat 0))=true:=by
   rw [jQ h1] at a
   unfold bp
   rcases a with a | a
   ·rw [a];rfl
   ·rw [a,Bool.or_true];rfl
  have hw:=bT (pr:=bp) h0 h1 hr
  have hl:=cQ (pr:=bp) h0 (Int.le_of_lt h1)
  unfold tZ at h ⊢
  split at h
  ·rename_i x;rw [if_pos x];exact add _ _ _ (by omega) hl
  ·rename_i x
   rw [if_neg x]
   split at h
   ·rename_i y;rw [if_pos y];exact add _ _ _ (by omega) hl
   ·rename_i y
    rw [if_neg y]
    split at h
    ·rename_i z;rw [if_pos z];exact add _ _ _ (by omega) hl
    ·cases h
 rw [if_neg a] at h ⊢
 by_cases b:aK (bAt s c.pos)=true
 ·rw [if_pos b] at h ⊢
  have hr:aD (bI (s.getD c.pos.toNat 0))=true:=by
   rw [jQ h1] at b
   unfold aD
   rw [b,Bool.or_true];rfl
  have hw:=bT (pr:=aD) h0 h1 hr
  have hl:=cQ (pr:=aD) h0 (Int.le_of_lt h1)
  unfold xX at h ⊢
  split at h
  ·rename_i x;rw [if_pos x];exact add _ _ _ (by omega) hl
  ·rename_i x
   rw [if_neg x]
   split at h
   ·rename_i y;rw [if_pos y];exact add _ _ _ (by omega) hl
   ·cases h
 rw [if_neg b] at h ⊢
 by_cases d:bAt s c.pos=34
 ·rw [if_pos d] at h ⊢
  obtain ⟨q1,q2,q3⟩:=eX s c.pos (s.length+2) [] (bS c (c.pos+1)) (by show 0<=c.pos+1;omega) (by show c.pos+1<=_;omega)
  have q2':c.pos+1<=(cm s c).2.2.pos:=q2
  have q1':(cm s c).2.2.out=c.out:=q1
  unfold xY at h ⊢
  split at h
  ·rename_i x
   rw [if_pos x]
   exact ⟨by show c.pos < (cm s c).2.2.pos;omega,q3,by show ((cm s c).2.2.out++[_]).length=_;rw [q1',List.length_append,List.length_singleton]⟩
  ·cases h
 rw [if_neg d] at h ⊢
 unfold vF at h ⊢
 split at h
 ·rename_i x
  rw [if_pos x]
  unfold fH at x
  simp only [Bool.and_eq_true,decide_eq_true_eq] at x
  exact add _ _ _ (by omega) x.1
 ·rename_i x
  rw [if_neg x]
  split at h
  ·rename_i y
   rw [if_pos y]
   unfold fH at y
   simp only [Bool.and_eq_true,decide_eq_true_eq] at y
   exact add _ _ _ (by omega) y.1
  ·cases h
theorem dJ (b:Int):aE b=true↔(b=32∨b=10∨b=9∨b=13):=by
 unfold aE
 simp only [Bool.or_eq_true,decide_eq_true_eq]
 omega
end Go.Pd
end
section
namespace Go.AL
open Go.Proofs Go.Shelf Go.RowKit Go.Pd
theorem gV {c:UInt8}:∀{s:Str},Lib.indexByte s c=-1→c∉s
 | [],_=>List.not_mem_nil
 | b ::r,h=>by
  unfold Lib.indexByte at h
  by_cases e:b=c
  ·subst e;simp at h
  ·have e':(b ==c)=false:=beq_eq_false_iff_ne.2 e
   rw [e'] at h
   simp only [Bool.false_eq_true,if_false] at h
   have hg:=Lib.indexByte_ge r c
   split at h
   ·rename_i k
    have:=gV (s:=r) (by simpa using k)
    rw [List.mem_cons,not_or]
    exact ⟨fun q=>e q.symm,this⟩
   ·omega
theorem fK {c:UInt8}:∀{s:Str},Lib.indexByte s c≠-1→∃k:Nat,Lib.indexByte s c=k/\k < s.length/\s=s.take k++c ::s.drop (k+1)/\c∉s.take k
 | [],h=>absurd rfl h
 | b ::r,h=>by
  unfold Lib.indexByte at h ⊢
  by_cases e:b=c
  ·subst e
   refine ⟨0,by simp,by simp,by simp,by simp⟩
  ·have e':(b ==c)=false:=beq_eq_false_iff_ne.2 e
   rw [e'] at h ⊢
   simp only [Bool.false_eq_true,if_false] at h ⊢
   split at h
   ·exact absurd rfl h
   ·rename_i k
    obtain ⟨j,j1,j2,j3,j4⟩:=fK (s:=r) (by simpa using k)
    rw [if_neg k]
    refine ⟨j+1,by rw [j1];rfl,by simp;omega,?_,?_⟩
    ·rw [List.take_succ_cons,List.drop_succ_cons,List.cons_append,←j3]
    ·rw [List.take_succ_cons,List.mem_cons,not_or]
     exact ⟨fun q=>e q.symm,j4⟩
theorem qB {c:UInt8}:∀{s:Str},c∉s→splitB c s=[s]
 | [],_=>rfl
 | b ::r,h=>by
  rw [List.mem_cons,not_or] at h
  unfold splitB
  rw [if_neg (fun e=>h.1 e.symm),qB h.2]
theorem il {c:UInt8}:∀{a:Str} (r:Str),c∉a→splitB c (a++c ::r)=a ::splitB c r
 | [],r,_=>by rw [List.nil_append,splitB,if_pos rfl]
 | b ::a,r,h=>by
  rw [List.mem_cons,not_or] at h
  rw [List.cons_append,splitB,if_neg (fun e=>h.1 e.symm),il r h.2]
theorem qC (c:UInt8):∀(n:Nat) (s:Str),s.length<=n→Lib.splitK [c] 0 (s.count c) s=splitB c s
 | n,s,hn=>by
  by_cases h:Lib.indexByte s c=-1
  ·have hm:=gV h
   rw [List.count_eq_zero.2 hm,qB hm]
   rfl
  ·obtain ⟨k,k1,k2,k3,k4⟩:=fK h
   have hc:s.count c=(s.drop (k+1)).count c+1:=by
    have e:=congrArg (List.count c) k3
    rw [List.count_append,List.count_cons_self,List.count_eq_zero.2 k4] at e
    omega
   rw [hc]
   unfold Lib.splitK
   rw [Lib.index_one,if_neg (by simpa using h),k1]
   have hd:(k:Int).toNat+[c].length=k+1:=rfl
   have ht:(k:Int).toNat+0=k:=rfl
   rw [hd,ht]
   cases n with
   | zero=>omega
   | succ n=>
    rw [qC c n (s.drop (k+1)) (by rw [List.length_drop];omega)]
    conv=>rhs;rw [k3]
    rw [il _ k4]
theorem nh {c:UInt8}:∀{a:Str} (r:Str),c∉a→(a++c ::r).takeWhile (fun b=>!decide (b=c))=a
 | [],r,_=>by simp
 | b ::a,r,h=>by
  rw [List.mem_cons,not_or] at h
  have hb:¬b=c:=fun e=>h.1 e.symm
  rw [List.cons_append,List.takeWhile_cons]
  simp only [hb,decide_false,Bool.not_false,if_true]
  rw [nh r h.2]
theorem rJ {c:UInt8} {s:Str} (h:c∉s):s.takeWhile (fun b=>!decide (b=c))=s:=by
 induction s with
 | nil=>rfl
 | cons b r ih=>
  rw [List.mem_cons,not_or] at h
  have hb:¬b=c:=fun e=>h.1 e.symm
  rw [List.takeWhile_cons]
  simp only [hb,decide_false,Bool.not_false,if_true]
  rw [ih h.2]
theorem Dz (s:Str):Lib.cut s [45]=(aC s,cg s,dI s):=by
 unfold Lib.cut
 rw [Lib.index_one]
 by_cases h:Lib.indexByte s 45=-1
 ·have hm:=gV h
  rw [h,if_neg (by decide)]
  have e:aC s=s:=rJ hm
  unfold cg dI
  rw [e,List.drop_eq_nil_of_le (by omega)]
  simp
 ·obtain ⟨k,k1,k2,k3,k4⟩:=fK h
  rw [k1,if_pos (by omega)]
  have e:aC s=s.take k:=by
   unfold aC
   conv=>lhs;rw [k3]
   exact nh _ k4
  have hl:(s.take k).length=k:=by rw [List.length_take];omega
  unfold cg dI
  rw [e,hl]
  simp [k2]
theorem Fp (s:Str) (c:Int) (h0:0<=c) (h1:c<=255):∀k:Nat,cd (fun b=>!decide (bI b=c)) s k=if Lib.indexByte s c.toNat.toUInt8=-1 then -1 else Lib.indexByte s c.toNat.toUInt8+k:=by
 have hb:∀b:UInt8,(bI b=c)↔b=c.toNat.toUInt8:=by
  intro b
  unfold bI
  constructor
  ·intro e
   have:c.toNat=b.toNat:=by omega
   rw [this]
   simp
  ·intro e
   rw [e]
   simp [Nat.toUInt8]
   omega
 induction s with
 | nil=>intro k;rfl
 | cons b r ih=>
  intro k
  rw [cd]
  by_cases e:bI b=c
  ·have e2:=(hb b).1 e
   rw [if_neg (by simp [e])]
   unfold Lib.indexByte
   rw [e2]
   simp
  ·have e2:(b ==c.toNat.toUInt8)=false:=beq_eq_false_iff_ne.2 (fun q=>e ((hb b).2 q))
   rw [if_pos (by simp [e]),ih (k+1)]
   have hg:=Lib.indexByte_ge r c.toNat.toUInt8
   have e3:Lib.indexByte (b ::r) c.toNat.toUInt8=(if b ==c.toNat.toUInt8 then 0 else if Lib.indexByte r c.toNat.toUInt8 ==-1 then -1 else Lib.indexByte r c.toNat.toUInt8+1):=rfl
   rw [e3,e2]
   simp only [Bool.false_eq_true,if_false,beq_iff_eq]
   by_cases q:Lib.indexByte r c.toNat.toUInt8=-1
   ·rw [if_pos q,if_pos q];rfl
   ·rw [if_neg q,if_neg q,if_neg (by omega)]
    omega
theorem vL (s:Str) (c:UInt8):decide (0<=Lib.indexByte s c)=decide (c∈s):=by
 have hg:=Lib.indexByte_ge s c
 rw [decide_eq_decide]
 by_cases h:Lib.indexByte s c=-1
 ·exact ⟨fun e=>by omega,fun e=>absurd e (gV h)⟩
 ·obtain ⟨k,k1,k2,k3,k4⟩:=fK h
  exact ⟨fun _=>by rw [k3];simp,fun _=>by omega⟩
variable [Tabs] {P:Program} {ρ:Ren}
theorem Below.drawn (w:World) (n:Nat):Below w.heap.size w (w.drewN n):=⟨rfl,rfl,rfl,Nat.le_refl _,fun _ _=>rfl⟩
theorem After.news {w w':World} {pub:Nat→Nat→Prop} {e:Nat→Option CObj} (hp:lL w pub) (hd:∀id,e id=none) (hb:Below w.heap.size w w') {p:Nat→Prop} (hc:∀o,p o→∃v,w'.cell? ⟨w.heap.size,o,none⟩=some v) :
  After w pub e (ax (putB [] [])) w' (fun b o=>pub b o∨(b=w.heap.size/\p o)) e where
 os:=hb.os
 tape:=hb.tape
 output:=hb.output
 size:=hb.size
 block b h _:=hb.block b h
 cell b o h _:=ay (hb.block b h) o
 kind b h _:=⟨bA (hb.block b h),fun o=>ba (hb.block b h) o⟩
 ext:=⟨fun _ c h=>⟨c,h,CLe.refl c⟩,fun _ _ h=>.inl h,fun b o h=>by obtain ⟨v,hv⟩:=hp b o h;exact ay (hb.block b (bd hv)) o⟩
 fresh b o h:=by
  rcases h with h | ⟨rfl,_⟩
  ·exact .inl h
  ·exact .inr (.inl (Nat.le_refl _))
 ok b o h:=by
  rcases h with h | ⟨rfl,h⟩
  ·obtain ⟨v,hv⟩:=hp b o h;exact ⟨v,(ay (hb.block b (bd hv)) o).trans hv⟩
  ·exact hc o h
 slots id o h:=by simp [putB,ax] at h
 dom id _:=hd id
 inj i j c d b o h:=by rw [hd i] at h;cases h
theorem fu {f:Nat} {args:List AV} {A:AV} {ob:Option Prop} (h:∀(w:World) (pub:Nat→Nat→Prop) (vs:List Value),iY w pub→VL ⟨fun _=>none,w,pub⟩ args vs→Calls P f vs.toArray w fun e w'=>(∃v,e=.returned v/\∀Ω,V Ω A v)/\Below w.heap.size w w') :
  ar P f args [] ⟨ob,none,A,[]⟩:=by
 intro w pub e vs hp ht hv hs hd hi
 have he:e=fun _=>none:=funext fun id=>hd id rfl
 subst he
 refine (h w pub vs ht hv).mono ?_
 rintro en w' ⟨⟨v,rfl,hV⟩,hb⟩
 exact ⟨pub,_,And.intro (fun b pv u h=>by cases h) (And.intro (hV _) (After.below hp (fun _=>rfl) hb))⟩
theorem VL.two_str {Ω:Om} {a b:Str} {vs:List Value} (h:VL Ω [.str a,.str b] vs):vs=[.string ⟨a.toArray⟩,.string ⟨b.toArray⟩]/\a.length<=ck/\b.length<=ck:=by
 obtain ⟨v1,v2,rfl,h1,h2⟩:=VL.two_inv h
 obtain ⟨rfl,l1⟩:=h1.str_inv
 obtain ⟨rfl,l2⟩:=h2.str_inv
 exact ⟨rfl,l1,l2⟩
def Fq:Pat:=p2 .str .str fun a b=>⟨some (b=oU),none,.str (lS a),[]⟩
set_option maxRecDepth 100000 in
theorem DA (b:UInt8):oU.contains b=dL b:=by
 have h:∀b:Fin 256,oU.contains (UInt8.ofNat b.val)=dL (UInt8.ofNat b.val):=by decide
 have:=h ⟨b.toNat,b.toNat_lt⟩
 simpa using this
theorem y0 {f:Nat} (L:Lays.n160 P ρ) (h116:(P.info? (ρ.t 116)).map (fun i=>(i.zero,i.size))=some (some (.agg (Array.replicate 256 (.bool false))),256)) (hf:ρ.f 160=f) (he:au P f):ad P f Fq:=by
 subst hf
 refine iA he fun a b _ _ ho=>?_
 have hb:=ho _ rfl
 subst hb
 refine fu fun w pub vs _ hv=>?_
 obtain ⟨rfl,l1,l2⟩:=VL.two_str hv
 have l1':a.length<=9223372036854775807:=l1
 refine (Any.strings_Trim_laid L h116 ⟨a.toArray⟩ ⟨oU.toArray⟩ w (by simpa [ByteArray.size] using l1') (by decide) (fun j b hj=>?_)).mono ?_
 ·have hd:∀b∈oU,b.toNat < 128:=by decide
  exact hd b (List.mem_of_getElem? hj)
 ·rintro en w' ⟨rfl,hb⟩
  refine ⟨⟨_,rfl,fun Ω=>?_⟩,hb⟩
  have e:Lib.trimS a oU=lS a:=by
   have ef:(fun b=>oU.contains b)=dL:=funext DA
   unfold Lib.trimS Lib.trimLeftS Lib.trimRightS lS
   rw [ef]
  have e2:(⟨a.toArray⟩:ByteArray).data.toList=a:=rfl
  have e3:(⟨oU.toArray⟩:ByteArray).data.toList=oU:=rfl
  rw [e2,e3,e]
  exact .str _ (Nat.le_trans (Dv a) l1)
def GF:Pat:=p2 .str .str fun a b=>⟨some (b=[45]/\a.length < 4294967281),none,.tup [.str (aC a),.str (cg a),.bool (dI a)],[]⟩
theorem B7 {f:Nat} {m:Int} (L:Lays.n145 P ρ) (hm:Tabs.tab (ρ.g 1) 0 (.int .i64 m)) (hf:ρ.f 145=f) (he:au P f):ad P f GF:=by
 subst hf
 refine iA he fun a b _ _ ho=>?_
 obtain ⟨hb,hl⟩:=ho _ rfl
 subst hb
 refine fu fun w pub vs ht hv=>?_
 obtain ⟨rfl,l1,l2⟩:=VL.two_str hv
 refine (Any.strings_Cut L ⟨a.toArray⟩ ⟨([45]:Str).toArray⟩ m w (by simpa [ByteArray.size] using hl) (ht _ _ _ hm).2).mono ?_
 rintro en w' ⟨rfl,n,rfl⟩
 refine ⟨⟨_,rfl,fun Ω=>?_⟩,Below.drawn w n⟩
 have e2:(⟨a.toArray⟩:ByteArray).data.toList=a:=rfl
 have e3:(⟨([45]:Str).toArray⟩:ByteArray).data.toList=[45]:=rfl
 rw [e2,e3,Dz]
 refine V.of_tup (VL.cons (.str _ ?_) (VL.cons (.str _ ?_) (VL.cons (.bool _) .nil)))
 ·exact Nat.le_trans (sm a) l1
 ·unfold cg
  rw [List.length_drop]
  exact Nat.le_trans (Nat.sub_le _ _) l1
def vM:Pat:=p2 .str .str fun a b=>⟨some (b.length=1),none,.bool (decide (b.getD 0 0∈a)),[]⟩
theorem qD {f:Nat} (L:Lays.n144 P ρ) (hf:ρ.f 144=f) (he:au P f):ad P f vM:=by
 subst hf
 refine iA he fun a b _ _ ho=>?_
 have hb:b.length=1:=ho _ rfl
 obtain ⟨c,rfl⟩:∃c,b=[c]:=by
  match b,hb with
  | [c],_=>exact ⟨c,rfl⟩
 refine fu fun w pub vs ht hv=>?_
 obtain ⟨rfl,l1,l2⟩:=VL.two_str hv
 refine (Any.strings_Contains_one L ⟨a.toArray⟩ c w).mono ?_
 rintro en w' ⟨rfl,rfl⟩
 refine ⟨⟨_,rfl,fun Ω=>?_⟩,Below.refl _ _⟩
 have e2:(⟨a.toArray⟩:ByteArray).data.toList=a:=rfl
 rw [e2,vL]
 exact .bool _
def u6:Pat:=p2 .str (.int .u8) fun a c=>.ret (.int .i64 (nV a c))
theorem oW {f:Nat} (L:Lays.n137 P ρ) (hf:ρ.f 137=f) (he:au P f):ad P f u6:=by
 subst hf
 refine iA he fun a c _ _ ho=>?_
 refine fu fun w pub vs ht hv=>?_
 obtain ⟨v1,v2,rfl,h1,h2⟩:=VL.two_inv hv
 obtain ⟨rfl,l1⟩:=h1.str_inv
 obtain ⟨rfl,c1,c2⟩:=(show V _ (.int .u8 c) v2 from h2).int_inv
 have c1:(0:Int)<=c:=c1
 have c2:c<=(255:Int):=c2
 refine (Any.strings_IndexByte L ⟨a.toArray⟩ c w).mono ?_
 rintro en w' ⟨rfl,rfl⟩
 refine ⟨⟨_,rfl,fun Ω=>?_⟩,Below.refl _ _⟩
 have e2:(⟨a.toArray⟩:ByteArray).data.toList=a:=rfl
 have e:nV a c=Lib.indexByte a c.toNat.toUInt8:=by
  unfold nV
  rw [Fp a c c1 c2 0]
  split
  ·rename_i h;exact h.symm
  ·simp
 rw [e2,e]
 have hg:=Lib.indexByte_ge a c.toNat.toUInt8
 have hu:Lib.indexByte a c.toNat.toUInt8<=(a.length:Int):=by
  by_cases q:Lib.indexByte a c.toNat.toUInt8=-1
  ·omega
  ·obtain ⟨k,k1,k2,_⟩:=fK q
   omega
 have l1':a.length<=9223372036854775807:=l1
 have b1:inR .i64 (Lib.indexByte a c.toNat.toUInt8):=an (by omega) (by omega)
 exact .int _ _ b1.1 b1.2
def DB:Pat:=p2 .str .str fun a b=>⟨some (b=[46]/\a.length < 4294967281),none,.lst .str (splitB 46 a) none,[]⟩
theorem qE (c:UInt8):∀(s:Str),∀x∈splitB c s,x.length<=s.length
 | [],x,h=>by rw [List.mem_singleton.1 h];exact Nat.le_refl _
 | b ::r,x,h=>by
  have ih:=qE c r
  unfold splitB at h
  split at h
  ·rcases List.mem_cons.1 h with e | e
   ·rw [e];exact Nat.zero_le _
   ·have:=ih x e;rw [List.length_cons];omega
  ·split at h
   ·rw [List.mem_singleton.1 h,List.length_cons];simp
   ·rename_i p ps e0
    rcases List.mem_cons.1 h with e | e
    ·have:=ih p (by rw [e0];exact List.mem_cons_self ..)
     rw [e,List.length_cons,List.length_cons]
     omega
    ·have:=ih x (by rw [e0];exact List.mem_cons_of_mem _ e)
     rw [List.length_cons]
     omega
theorem vN {f:Nat} {m:Int} (L:Lays.n146 P ρ) (hi9:(P.info? (ρ.t 9)).map (fun i=>(i.zero,i.size,i.bytes))=some (some (.string ByteArray.empty),1,16)) (hm:Tabs.tab (ρ.g 1) 0 (.int .i64 m)) (hf:ρ.f 146=f) (he:au P f):ad P f DB:=by
 subst hf
 refine iA he fun a b _ _ ho=>?_
 obtain ⟨hb,hl⟩:=ho _ rfl
 subst hb
 intro w pub e vs hp ht hv hs hd hi
 obtain ⟨rfl,l1,l2⟩:=VL.two_str hv
 have l1':a.length<=9223372036854775807:=l1
 refine (Any.strings_Split L hi9 ⟨a.toArray⟩ ⟨([46]:Str).toArray⟩ m w (by simpa [ByteArray.size] using hl) (ht _ _ _ hm).2 (by decide)).mono ?_
 rintro en w' ⟨rfl,rfl⟩
 have e2:(⟨a.toArray⟩:ByteArray).data.toList=a:=rfl
 have e3:(⟨([46]:Str).toArray⟩:ByteArray).data.toList=[46]:=rfl
 have hcount:Lib.countB ⟨a.toArray⟩ ⟨([46]:Str).toArray⟩=a.count 46:=by
  show Lib.count a [46]=_
  rw [Lib.count_one]
 have hsp:(Lib.splitB ⟨([46]:Str).toArray⟩ 0 (Lib.countB ⟨a.toArray⟩ ⟨([46]:Str).toArray⟩) ⟨a.toArray⟩).map (·.data.toList)=splitB 46 a:=by
  rw [Lib.splitB_data,hcount]
  exact qC 46 a.length a (Nat.le_refl _)
 generalize Lib.splitB ⟨([46]:Str).toArray⟩ 0 (Lib.countB ⟨a.toArray⟩ ⟨([46]:Str).toArray⟩) ⟨a.toArray⟩=bs at hsp
 have hcl:(splitB 46 a).length=Lib.countB ⟨a.toArray⟩ ⟨([46]:Str).toArray⟩+1:=by
  rw [hcount]
  have:∀s:Str,(splitB 46 s).length=s.count 46+1:=by
   intro s
   induction s with
   | nil=>rfl
   | cons b r ih=>
    unfold splitB
    split
    ·rename_i h
     subst h
     rw [List.length_cons,ih,List.count_cons_self]
    ·rename_i h
     rw [List.count_cons_of_ne h]
     split
     ·rename_i e0;rw [e0] at ih;simp at ih
     ·rename_i p ps e0
      rw [e0] at ih
      simpa using ih
  exact this a
 have hbl:bs.length=(splitB 46 a).length:=by rw [←hsp,List.length_map]
 have hsz:=gn 46 a
 rw [←hcl]
 have hnew:(w.alloc (.cells (bs.map Value.string).toArray (ρ.t 9))).heap[w.heap.size]?=some (.cells (bs.map Value.string).toArray (ρ.t 9) (0,0)):=cJ _ _
 have hbw:Below w.heap.size w (w.alloc (.cells (bs.map Value.string).toArray (ρ.t 9))):=⟨rfl,rfl,rfl,by simp,fun b hb=>gy _ _ _ hb⟩
 refine ⟨fun b o=>pub b o∨(b=w.heap.size/\o < bs.length),e,And.intro (fun b pv u h=>by cases h) (And.intro ?_ (After.news hp (fun id=>hd id rfl) hbw (p:=fun o=>o < bs.length) (fun o ho=>?_)))⟩
 ·refine ow (Ω:=⟨e,w.alloc (.cells (bs.map Value.string).toArray (ρ.t 9)),fun b o=>pub b o∨(b=w.heap.size/\o < bs.length)⟩) (τ:=.str) (xs:=splitB 46 a) (vs:=bs.map Value.string) hnew ?_ ?_ (Nat.le_refl _) (by unfold ck;omega) (fun i hi=>.inr ⟨rfl,by rw [hbl];simpa [ac] using hi⟩) (fun id hid=>by cases hid)
  ·have e1:(splitB 46 a).length *ac .str=bs.length:=by rw [hbl];exact Nat.mul_one _
   rw [e1]
   exact List.take_of_length_le (by simp)
  ·have ef:bg .str (splitB 46 a)=(splitB 46 a).map AV.str:=by
    unfold bg
    rw [List.map_eq_flatMap]
    rfl
   rw [ef,←hsp]
   refine ⟨by simp,fun j c v hc hv=>?_⟩
   rw [List.map_map,List.getElem?_map,Option.map_eq_some_iff] at hc
   rw [List.getElem?_map,Option.map_eq_some_iff] at hv
   obtain ⟨x,hx,rfl⟩:=hc
   obtain ⟨y,hy,rfl⟩:=hv
   rw [hx] at hy
   cases hy
   have hmem:x.data.toList∈splitB 46 a:=by rw [←hsp];exact List.mem_map_of_mem (List.mem_of_getElem? hx)
   have hle:=qE 46 a _ hmem
   have:=V.str (Ω:=⟨e,w.alloc (.cells (bs.map Value.string).toArray (ρ.t 9)),fun b o=>pub b o∨(b=w.heap.size/\o < bs.length)⟩) x.data.toList (Nat.le_trans hle l1)
   exact this
 ·rw [aM hnew]
  exact ⟨_,Array.getElem?_eq_getElem (by simpa using ho)⟩
def ni [Tabs] (g3 g4:Nat):Prop:=
 (∀c,c < 256→Tabs.tab g3 c (.int .u8 (Lib.firstT c)))/\(∀i,i < 16→Tabs.tab g4 (2 *i) (.int .u8 (Lib.accLo i))/\Tabs.tab g4 (2 *i+1) (.int .u8 (Lib.accHi i)))
theorem ni.tabs {g3 g4:Nat} (h:ni g3 g4) {w:World} {pub:Nat→Nat→Prop} (ht:iY w pub):Lib.Utf8Tabs g3 g4 w:=
 ⟨fun c hc=>(ht _ _ _ (h.1 c hc)).2,fun i hi=>⟨(ht _ _ _ (h.2 i hi).1).2,(ht _ _ _ (h.2 i hi).2).2⟩⟩
theorem Fs (s:Str) (k:Nat) (h:k < s.length):((⟨s.toArray⟩:ByteArray).get! k)=s.getD k 0:=by
 rw [Utf8W.get!_of_lt _ k (by simpa [ByteArray.size] using h)]
 have:(⟨s.toArray⟩:ByteArray)[k]'(by simpa [ByteArray.size] using h)=s[k]:=rfl
 rw [this]
 simp [List.getD_eq_getElem?_getD,h]
theorem vO (n b0 b1 b2 b3 c1 c2 c3:Nat) (h1:1 < n→b1=c1) (h2:2 < n→b2=c2) (h3:3 < n→b3=c3):Lib.decodeN n b0 b1 b2 b3=Lib.decodeN n b0 c1 c2 c3:=by
 rcases Nat.lt_or_ge 3 n with k | k
 ·rw [h1 (by omega),h2 (by omega),h3 k]
 rcases Nat.lt_or_ge 2 n with k2 | k2
 ·rw [h1 (by omega),h2 k2]
  unfold Lib.decodeN
  have e:¬3 < n:=by omega
  simp only [e,false_and,and_false,if_false]
 rcases Nat.lt_or_ge 1 n with k1 | k1
 ·rw [h1 k1]
  unfold Lib.decodeN
  have e:¬3 < n:=by omega
  have e':¬2 < n:=by omega
  simp only [e,e',false_and,and_false,if_false]
 ·unfold Lib.decodeN
  have e:¬3 < n:=by omega
  have e':¬2 < n:=by omega
  have e'':¬1 < n:=by omega
  simp only [e,e',e'',false_and,and_false,if_false]
theorem oI (s:Str):Lib.decodeGo ⟨s.toArray⟩=gU s:=by
 unfold Lib.decodeGo gU
 have hs:(⟨s.toArray⟩:ByteArray).size=s.length:=by simp [ByteArray.size]
 rw [hs]
 by_cases h:s=[]
 ·subst h;rfl
 have hl:=List.length_pos_iff.2 h
 rw [if_neg (by omega),if_neg h,Lib.decode_at,hs,Nat.sub_zero,Fs s 0 hl]
 exact vO _ _ _ _ _ _ _ _ (fun k=>by rw [Fs s 1 k]) (fun k=>by rw [Fs s 2 k]) (fun k=>by rw [Fs s 3 k])
def rK:Pat:=p1 .str fun s=>.ret (.tup [.int .i32 ((gU s).1:Int),.int .i64 ((gU s).2:Int)])
theorem y4 (s:Str):(gU s).1<=1114111/\(gU s).2<=s.length:=by
 by_cases h:s=[]
 ·subst h;decide
 ·have:=jp h
  exact ⟨this.2.2.1,this.2.2.2.2⟩
theorem o5 {f:Nat} (L:Lays.n197 P ρ) (hu:ni (ρ.g 3) (ρ.g 4)) (hf:ρ.f 197=f) (he:au P f):ad P f rK:=by
 subst hf
 refine be he fun s _ ho=>?_
 refine fu fun w pub vs ht hv=>?_
 obtain ⟨v,rfl,h1⟩:=VL.one_inv hv
 obtain ⟨rfl,hl⟩:=h1.str_inv
 have hl':s.length<=9223372036854775807:=hl
 refine (Any.utf8_DecodeRuneInString L ⟨s.toArray⟩ w (hu.tabs ht)).mono ?_
 rintro en w' ⟨rfl,hb⟩
 refine ⟨⟨_,rfl,fun Ω=>?_⟩,hb⟩
 rw [oI]
 obtain ⟨d1,d2⟩:=y4 s
 exact V.of_tup (VL.cons (.int .i32 _ (by show (-2147483648:Int)<=_;omega) (by show _<=(2147483647:Int);omega)) (VL.cons (.int .i64 _ (by show (-9223372036854775808:Int)<=_;omega) (by show _<=(9223372036854775807:Int);omega)) .nil))
theorem qF:∀(n:Nat) (l:Str) (k:Nat),Lib.validGoD n l=(iE n l k).isNone
 | 0,_,_=>rfl
 | n+1,l,k=>by
  unfold Lib.validGoD
  rw [iE]
  by_cases h:l=[]
  ·rw [if_pos h,if_pos h];rfl
  rw [if_neg h,if_neg h]
  have hd:Lib.decodeL l=gU l:=by
   rw [←oI]
   unfold Lib.decodeL Lib.decodeGo
   rw [if_neg (by
    have:=List.length_pos_iff.2 h
    simp [ByteArray.size]
    exact h)]
  obtain ⟨b1,b2,_⟩:=jp h
  rw [hd]
  by_cases u:ce l=0
  ·rw [if_pos (b1.2 u),if_pos u];rfl
  ·rw [if_neg (fun e=>u (b1.1 e)),if_neg u,b2 u]
   exact qF n _ _
def DC:Pat:=p1 .str fun s=>.ret (.bool (cu s).isNone)
theorem vP {f:Nat} (L:Lays.n196 P ρ) (hu:ni (ρ.g 3) (ρ.g 4)) (hf:ρ.f 196=f) (he:au P f):ad P f DC:=by
 subst hf
 refine be he fun s _ ho=>?_
 refine fu fun w pub vs ht hv=>?_
 obtain ⟨v,rfl,h1⟩:=VL.one_inv hv
 obtain ⟨rfl,hl⟩:=h1.str_inv
 have hl':s.length<=9223372036854775807:=hl
 refine (Any.utf8_ValidString L ⟨s.toArray⟩ w (by simpa [ByteArray.size] using hl') (hu.tabs ht)).mono ?_
 rintro en w' ⟨rfl,hb⟩
 refine ⟨⟨_,rfl,fun Ω=>?_⟩,hb⟩
 have e:Lib.validD s=(cu s).isNone:=qF s.length s 0
 have e2:(⟨s.toArray⟩:ByteArray).data.toList=s:=rfl
 rw [e2,e]
 exact .bool _
end Go.AL
end
section
namespace Go.Proofs
open Go.Proofs.Tryz
open Go.Shelf
def Tryz.lays160_ren:Go.Shelf.Ren:=⟨fun | 160=>134 | 232=>183 | 231=>182 | 227=>184 | 234=>186 | 233=>185 | 236=>188 | 235=>187 | 228=>218 | 271=>220 | 151=>219 | 197=>180 | 120=>246 | 152=>245 | 260=>217 | 137=>193 | 119=>264 | 224=>265 | 225=>266 | 217=>224 | 266=>250 | n=>n,fun | 9=>9 | 4=>4 | 3=>3 | 5=>5 | 117=>179 | 116=>178 | 0=>0 | 124=>182 | 21=>21 | 105=>173 | 46=>228 | 119=>224 | 139=>227 | 138=>226 | n=>n,fun | 3=>0 | 4=>1 | n=>n⟩
theorem Tryz.lays160:Go.Proofs.Lays.n160 prog Tryz.lays160_ren:={
 mixed:=by kernel_rfl
 f119:=Go.AL.Xt func264
 f120:=Go.AL.Xt func246
 f137:=Go.AL.Xt func193
 f151:=Go.AL.Xt func219
 f152:=Go.AL.Xt func245
 f160:=Go.AL.Xt func134
 f197:=Go.AL.Xt func180
 f217:=Go.AL.Xt func224
 f224:=Go.AL.Xt func265
 f225:=Go.AL.Xt func266
 f227:=Go.AL.Xt func184
 f228:=Go.AL.Xt func218
 f231:=Go.AL.Xt func182
 f232:=Go.AL.Xt func183
 f233:=Go.AL.Xt func185
 f234:=Go.AL.Xt func186
 f235:=Go.AL.Xt func187
 f236:=Go.AL.Xt func188
 f260:=Go.AL.Xt func217
 f266:=Go.AL.Xt func250
 f271:=Go.AL.Xt func220
 t0:=underlying0
 a0:=isAgg0
 z0:=sizeOf0
 v0:=zeroValue0
 t3:=underlying3
 a3:=isAgg3
 z3:=sizeOf3
 v3:=zeroValue3
 t4:=underlying4
 a4:=isAgg4
 z4:=sizeOf4
 v4:=zeroValue4
 t5:=underlying5
 a5:=isAgg5
 z5:=sizeOf5
 v5:=zeroValue5
 t9:=underlying9
 a9:=isAgg9
 z9:=sizeOf9
 v9:=zeroValue9
 t21:=underlying21
 a21:=isAgg21
 z21:=sizeOf21
 v21:=zeroValue21
 t46:=underlying228
 a46:=isAgg228
 z46:=sizeOf228
 v46:=zeroValue228
 t105:=underlying173
 a105:=isAgg173
 z105:=sizeOf173
 v105:=zeroValue173
 t116:=underlying178
 a116:=isAgg178
 z116:=sizeOf178
 t117:=underlying179
 a117:=isAgg179
 z117:=sizeOf179
 v117:=zeroValue179
 t119:=underlying224
 a119:=isAgg224
 z119:=sizeOf224
 t124:=underlying182
 a124:=isAgg182
 z124:=sizeOf182
 v124:=zeroValue182
 t138:=underlying226
 a138:=isAgg226
 z138:=sizeOf226
 v138:=zeroValue226
 t139:=underlying227
 a139:=isAgg227
 z139:=sizeOf227
 v139:=zeroValue227
 g3:=by kernel_rfl
 g4:=by kernel_rfl}
def Tryz.lays145_ren:Go.Shelf.Ren:=⟨fun | 145=>189 | 220=>221 | 219=>247 | 217=>224 | 225=>266 | 224=>265 | 267=>267 | 266=>250 | 314=>285 | n=>n,fun | 9=>9 | 4=>4 | 59=>183 | 3=>3 | 5=>5 | 46=>228 | 146=>260 | 51=>239 | n=>n,fun | 1=>2 | n=>n⟩
theorem Tryz.lays145:Go.Proofs.Lays.n145 prog Tryz.lays145_ren:={
 mixed:=by kernel_rfl
 f145:=Go.AL.Xt func189
 f217:=Go.AL.Xt func224
 f219:=Go.AL.Xt func247
 f220:=Go.AL.Xt func221
 f224:=Go.AL.Xt func265
 f225:=Go.AL.Xt func266
 f266:=Go.AL.Xt func250
 f267:=Go.AL.Xt func267
 f314:=Go.AL.Xt func285
 t3:=underlying3
 a3:=isAgg3
 z3:=sizeOf3
 v3:=zeroValue3
 t4:=underlying4
 a4:=isAgg4
 z4:=sizeOf4
 v4:=zeroValue4
 t5:=underlying5
 a5:=isAgg5
 z5:=sizeOf5
 v5:=zeroValue5
 t9:=underlying9
 a9:=isAgg9
 z9:=sizeOf9
 v9:=zeroValue9
 t46:=underlying228
 a46:=isAgg228
 z46:=sizeOf228
 v46:=zeroValue228
 t51:=underlying239
 a51:=isAgg239
 z51:=sizeOf239
 v51:=zeroValue239
 t59:=underlying183
 a59:=isAgg183
 z59:=sizeOf183
 v59:=zeroValue183
 t146:=underlying260
 a146:=isAgg260
 z146:=sizeOf260
 v146:=zeroValue260
 g1:=by kernel_rfl}
def Tryz.lays146_ren:Go.Shelf.Ren:=⟨fun | 146=>190 | 221=>222 | 268=>248 | 138=>249 | 143=>225 | 195=>268 | 197=>180 | 218=>269 | 219=>247 | 260=>217 | 217=>224 | 225=>266 | 224=>265 | 267=>267 | 266=>250 | 314=>285 | n=>n,fun | 9=>9 | 31=>25 | 3=>3 | 4=>4 | 0=>0 | 105=>173 | 21=>21 | 5=>5 | 46=>228 | 119=>224 | 139=>227 | 138=>226 | 146=>260 | 51=>239 | n=>n,fun | 1=>2 | 3=>0 | 4=>1 | n=>n⟩
theorem Tryz.lays146:Go.Proofs.Lays.n146 prog Tryz.lays146_ren:={
 mixed:=by kernel_rfl
 f138:=Go.AL.Xt func249
 f143:=Go.AL.Xt func225
 f146:=Go.AL.Xt func190
 f195:=Go.AL.Xt func268
 f197:=Go.AL.Xt func180
 f217:=Go.AL.Xt func224
 f218:=Go.AL.Xt func269
 f219:=Go.AL.Xt func247
 f221:=Go.AL.Xt func222
 f224:=Go.AL.Xt func265
 f225:=Go.AL.Xt func266
 f260:=Go.AL.Xt func217
 f266:=Go.AL.Xt func250
 f267:=Go.AL.Xt func267
 f268:=Go.AL.Xt func248
 f314:=Go.AL.Xt func285
 t0:=underlying0
 a0:=isAgg0
 z0:=sizeOf0
 v0:=zeroValue0
 t3:=underlying3
 a3:=isAgg3
 z3:=sizeOf3
 v3:=zeroValue3
 t4:=underlying4
 a4:=isAgg4
 z4:=sizeOf4
 v4:=zeroValue4
 t5:=underlying5
 a5:=isAgg5
 z5:=sizeOf5
 v5:=zeroValue5
 t9:=underlying9
 a9:=isAgg9
 z9:=sizeOf9
 v9:=zeroValue9
 t21:=underlying21
 a21:=isAgg21
 z21:=sizeOf21
 v21:=zeroValue21
 t31:=underlying25
 a31:=isAgg25
 z31:=sizeOf25
 v31:=zeroValue25
 t46:=underlying228
 a46:=isAgg228
 z46:=sizeOf228
 v46:=zeroValue228
 t51:=underlying239
 a51:=isAgg239
 z51:=sizeOf239
 v51:=zeroValue239
 t105:=underlying173
 a105:=isAgg173
 z105:=sizeOf173
 v105:=zeroValue173
 t119:=underlying224
 a119:=isAgg224
 z119:=sizeOf224
 t138:=underlying226
 a138:=isAgg226
 z138:=sizeOf226
 v138:=zeroValue226
 t139:=underlying227
 a139:=isAgg227
 z139:=sizeOf227
 v139:=zeroValue227
 t146:=underlying260
 a146:=isAgg260
 z146:=sizeOf260
 v146:=zeroValue260
 g1:=by kernel_rfl
 g3:=by kernel_rfl
 g4:=by kernel_rfl}
def Tryz.lays144_ren:Go.Shelf.Ren:=⟨fun | 144=>195 | 143=>225 | 219=>247 | 217=>224 | 225=>266 | 224=>265 | 267=>267 | 266=>250 | 314=>285 | n=>n,fun | 9=>9 | 4=>4 | 3=>3 | 5=>5 | 46=>228 | 146=>260 | 51=>239 | n=>n,fun | 1=>2 | n=>n⟩
theorem Tryz.lays144:Go.Proofs.Lays.n144 prog Tryz.lays144_ren:={
 mixed:=by kernel_rfl
 f143:=Go.AL.Xt func225
 f144:=Go.AL.Xt func195
 f217:=Go.AL.Xt func224
 f219:=Go.AL.Xt func247
 f224:=Go.AL.Xt func265
 f225:=Go.AL.Xt func266
 f266:=Go.AL.Xt func250
 f267:=Go.AL.Xt func267
 f314:=Go.AL.Xt func285
 t3:=underlying3
 a3:=isAgg3
 z3:=sizeOf3
 v3:=zeroValue3
 t4:=underlying4
 a4:=isAgg4
 z4:=sizeOf4
 v4:=zeroValue4
 t5:=underlying5
 a5:=isAgg5
 z5:=sizeOf5
 v5:=zeroValue5
 t9:=underlying9
 a9:=isAgg9
 z9:=sizeOf9
 v9:=zeroValue9
 t46:=underlying228
 a46:=isAgg228
 z46:=sizeOf228
 v46:=zeroValue228
 t51:=underlying239
 a51:=isAgg239
 z51:=sizeOf239
 v51:=zeroValue239
 t146:=underlying260
 a146:=isAgg260
 z146:=sizeOf260
 v146:=zeroValue260
 g1:=by kernel_rfl}
def Tryz.lays137_ren:Go.Shelf.Ren:=⟨fun | 137=>193 | 217=>224 | 266=>250 | n=>n,fun | 9=>9 | 5=>5 | 3=>3 | n=>n,fun | n=>n⟩
theorem Tryz.lays137:Go.Proofs.Lays.n137 prog Tryz.lays137_ren:={
 mixed:=by kernel_rfl
 f137:=Go.AL.Xt func193
 f217:=Go.AL.Xt func224
 f266:=Go.AL.Xt func250
 t3:=underlying3
 a3:=isAgg3
 z3:=sizeOf3
 v3:=zeroValue3
 t5:=underlying5
 a5:=isAgg5
 z5:=sizeOf5
 v5:=zeroValue5
 t9:=underlying9
 a9:=isAgg9
 z9:=sizeOf9
 v9:=zeroValue9}
def Tryz.lays197_ren:Go.Shelf.Ren:=⟨fun | 197=>180 | 260=>217 | n=>n,fun | 9=>9 | 21=>21 | 3=>3 | 4=>4 | 5=>5 | 105=>173 | 119=>224 | 0=>0 | 46=>228 | 139=>227 | 138=>226 | n=>n,fun | 3=>0 | 4=>1 | n=>n⟩
theorem Tryz.lays197:Go.Proofs.Lays.n197 prog Tryz.lays197_ren:={
 mixed:=by kernel_rfl
 f197:=Go.AL.Xt func180
 f260:=Go.AL.Xt func217
 t0:=underlying0
 a0:=isAgg0
 z0:=sizeOf0
 v0:=zeroValue0
 t3:=underlying3
 a3:=isAgg3
 z3:=sizeOf3
 v3:=zeroValue3
 t4:=underlying4
 a4:=isAgg4
 z4:=sizeOf4
 v4:=zeroValue4
 t5:=underlying5
 a5:=isAgg5
 z5:=sizeOf5
 v5:=zeroValue5
 t9:=underlying9
 a9:=isAgg9
 z9:=sizeOf9
 v9:=zeroValue9
 t21:=underlying21
 a21:=isAgg21
 z21:=sizeOf21
 v21:=zeroValue21
 t46:=underlying228
 a46:=isAgg228
 z46:=sizeOf228
 v46:=zeroValue228
 t105:=underlying173
 a105:=isAgg173
 z105:=sizeOf173
 v105:=zeroValue173
 t119:=underlying224
 a119:=isAgg224
 z119:=sizeOf224
 t138:=underlying226
 a138:=isAgg226
 z138:=sizeOf226
 v138:=zeroValue226
 t139:=underlying227
 a139:=isAgg227
 z139:=sizeOf227
 v139:=zeroValue227
 g3:=by kernel_rfl
 g4:=by kernel_rfl}
def Tryz.lays196_ren:Go.Shelf.Ren:=⟨fun | 196=>212 | 259=>243 | n=>n,fun | 9=>9 | 4=>4 | 3=>3 | 5=>5 | 12=>12 | 119=>224 | 0=>0 | 46=>228 | 139=>227 | 138=>226 | 53=>211 | n=>n,fun | 3=>0 | 4=>1 | n=>n⟩
theorem Tryz.lays196:Go.Proofs.Lays.n196 prog Tryz.lays196_ren:={
 mixed:=by kernel_rfl
 f196:=Go.AL.Xt func212
 f259:=Go.AL.Xt func243
 t0:=underlying0
 a0:=isAgg0
 z0:=sizeOf0
 v0:=zeroValue0
 t3:=underlying3
 a3:=isAgg3
 z3:=sizeOf3
 v3:=zeroValue3
 t4:=underlying4
 a4:=isAgg4
 z4:=sizeOf4
 v4:=zeroValue4
 t5:=underlying5
 a5:=isAgg5
 z5:=sizeOf5
 v5:=zeroValue5
 t9:=underlying9
 a9:=isAgg9
 z9:=sizeOf9
 v9:=zeroValue9
 t12:=underlying12
 a12:=isAgg12
 z12:=sizeOf12
 v12:=zeroValue12
 t46:=underlying228
 a46:=isAgg228
 z46:=sizeOf228
 v46:=zeroValue228
 t53:=underlying211
 a53:=isAgg211
 z53:=sizeOf211
 v53:=zeroValue211
 t119:=underlying224
 a119:=isAgg224
 z119:=sizeOf224
 t138:=underlying226
 a138:=isAgg226
 z138:=sizeOf226
 v138:=zeroValue226
 t139:=underlying227
 a139:=isAgg227
 z139:=sizeOf227
 v139:=zeroValue227
 g3:=by kernel_rfl
 g4:=by kernel_rfl}
end Go.Proofs
end
section
namespace Go.Proofs
open Go.Proofs.Tryz
open Go.Shelf
def Tryz.lays190_ren:Go.Shelf.Ren:=⟨fun | 190=>229 | 125=>255 | 258=>254 | 128=>280 | 129=>257 | 302=>271 | 303=>272 | 304=>273 | 305=>274 | 306=>275 | 307=>276 | 308=>277 | 309=>278 | 310=>279 | 333=>286 | 329=>287 | 330=>288 | 334=>289 | 335=>290 | 336=>291 | 344=>292 | n=>n,fun | 31=>25 | 9=>9 | 3=>3 | 46=>228 | 0=>0 | 51=>239 | 53=>211 | 4=>4 | 183=>249 | 182=>248 | 131=>253 | 5=>5 | 218=>262 | 222=>266 | 228=>270 | 229=>88 | n=>n,fun | n=>n⟩
theorem Tryz.lays190:Go.Proofs.Lays.n190 prog Tryz.lays190_ren:={
 mixed:=by kernel_rfl
 f125:=Go.AL.Xt func255
 f128:=Go.AL.Xt func280
 f129:=Go.AL.Xt func257
 f190:=Go.AL.Xt func229
 f258:=Go.AL.Xt func254
 f302:=Go.AL.Xt func271
 f303:=Go.AL.Xt func272
 f304:=Go.AL.Xt func273
 f305:=Go.AL.Xt func274
 f306:=Go.AL.Xt func275
 f307:=Go.AL.Xt func276
 f308:=Go.AL.Xt func277
 f309:=Go.AL.Xt func278
 f310:=Go.AL.Xt func279
 f329:=Go.AL.Xt func287
 f330:=Go.AL.Xt func288
 f333:=Go.AL.Xt func286
 f334:=Go.AL.Xt func289
 f335:=Go.AL.Xt func290
 f336:=Go.AL.Xt func291
 f344:=Go.AL.Xt func292
 t0:=underlying0
 a0:=isAgg0
 z0:=sizeOf0
 v0:=zeroValue0
 t3:=underlying3
 a3:=isAgg3
 z3:=sizeOf3
 v3:=zeroValue3
 t4:=underlying4
 a4:=isAgg4
 z4:=sizeOf4
 v4:=zeroValue4
 t5:=underlying5
 a5:=isAgg5
 z5:=sizeOf5
 v5:=zeroValue5
 t9:=underlying9
 a9:=isAgg9
 z9:=sizeOf9
 v9:=zeroValue9
 t31:=underlying25
 a31:=isAgg25
 z31:=sizeOf25
 v31:=zeroValue25
 t46:=underlying228
 a46:=isAgg228
 z46:=sizeOf228
 v46:=zeroValue228
 t51:=underlying239
 a51:=isAgg239
 z51:=sizeOf239
 v51:=zeroValue239
 t53:=underlying211
 a53:=isAgg211
 z53:=sizeOf211
 v53:=zeroValue211
 t131:=underlying253
 a131:=isAgg253
 z131:=sizeOf253
 v131:=zeroValue253
 t182:=underlying248
 a182:=isAgg248
 z182:=sizeOf248
 v182:=zeroValue248
 t183:=underlying249
 a183:=isAgg249
 z183:=sizeOf249
 v183:=zeroValue249
 t218:=underlying262
 a218:=isAgg262
 z218:=sizeOf262
 v218:=zeroValue262
 t222:=underlying266
 a222:=isAgg266
 z222:=sizeOf266
 v222:=zeroValue266
 t228:=underlying270
 a228:=isAgg270
 z228:=sizeOf270
 v228:=zeroValue270
 t229:=underlying88
 a229:=isAgg88
 z229:=sizeOf88
 v229:=zeroValue88}
def Tryz.lays194_ren:Go.Shelf.Ren:=⟨fun | 194=>202 | n=>n,fun | 31=>25 | 9=>9 | 3=>3 | 4=>4 | 0=>0 | n=>n,fun | n=>n⟩
theorem Tryz.lays194:Go.Proofs.Lays.n194 prog Tryz.lays194_ren:={
 mixed:=by kernel_rfl
 f194:=Go.AL.Xt func202
 t0:=underlying0
 a0:=isAgg0
 z0:=sizeOf0
 v0:=zeroValue0
 t3:=underlying3
 a3:=isAgg3
 z3:=sizeOf3
 v3:=zeroValue3
 t4:=underlying4
 a4:=isAgg4
 z4:=sizeOf4
 v4:=zeroValue4
 t9:=underlying9
 a9:=isAgg9
 z9:=sizeOf9
 v9:=zeroValue9
 t31:=underlying25
 a31:=isAgg25
 z31:=sizeOf25
 v31:=zeroValue25}
def Tryz.lays172_ren:Go.Shelf.Ren:=⟨fun | 172=>164 | 244=>207 | 245=>208 | 247=>237 | 279=>238 | 280=>239 | 281=>240 | 282=>241 | 287=>261 | 316=>262 | 171=>94 | 205=>263 | 321=>283 | 322=>284 | 243=>158 | 246=>205 | 283=>233 | 284=>234 | 285=>235 | 286=>236 | 129=>257 | 317=>256 | 318=>258 | 319=>259 | 320=>260 | 337=>281 | 338=>282 | n=>n,fun | 9=>9 | 3=>3 | 75=>155 | 76=>156 | 4=>4 | 5=>5 | 167=>216 | 37=>150 | 0=>0 | 85=>217 | 2=>2 | 168=>219 | 53=>211 | 175=>241 | 46=>228 | 210=>244 | 127=>198 | 145=>259 | 143=>257 | 21=>21 | 171=>210 | 173=>214 | 212=>238 | 51=>239 | 20=>20 | 213=>240 | 232=>268 | 233=>269 | 80=>158 | n=>n,fun | 15=>4 | 16=>5 | 17=>3 | 18=>6 | 19=>7 | n=>n⟩
theorem Tryz.lays172:Go.Proofs.Lays.n172 prog Tryz.lays172_ren:={
 mixed:=by kernel_rfl
 f129:=Go.AL.Xt func257
 f171:=Go.AL.Xt func94
 f172:=Go.AL.Xt func164
 f205:=Go.AL.Xt func263
 f243:=Go.AL.Xt func158
 f244:=Go.AL.Xt func207
 f245:=Go.AL.Xt func208
 f246:=Go.AL.Xt func205
 f247:=Go.AL.Xt func237
 f279:=Go.AL.Xt func238
 f280:=Go.AL.Xt func239
 f281:=Go.AL.Xt func240
 f282:=Go.AL.Xt func241
 f283:=Go.AL.Xt func233
 f284:=Go.AL.Xt func234
 f285:=Go.AL.Xt func235
 f286:=Go.AL.Xt func236
 f287:=Go.AL.Xt func261
 f316:=Go.AL.Xt func262
 f317:=Go.AL.Xt func256
 f318:=Go.AL.Xt func258
 f319:=Go.AL.Xt func259
 f320:=Go.AL.Xt func260
 f321:=Go.AL.Xt func283
 f322:=Go.AL.Xt func284
 f337:=Go.AL.Xt func281
 f338:=Go.AL.Xt func282
 t0:=underlying0
 a0:=isAgg0
 z0:=sizeOf0
 v0:=zeroValue0
 t2:=underlying2
 a2:=isAgg2
 z2:=sizeOf2
 v2:=zeroValue2
 t3:=underlying3
 a3:=isAgg3
 z3:=sizeOf3
 v3:=zeroValue3
 t4:=underlying4
 a4:=isAgg4
 z4:=sizeOf4
 v4:=zeroValue4
 t5:=underlying5
 a5:=isAgg5
 z5:=sizeOf5
 v5:=zeroValue5
 t9:=underlying9
 a9:=isAgg9
 z9:=sizeOf9
 v9:=zeroValue9
 t20:=underlying20
 a20:=isAgg20
 z20:=sizeOf20
 v20:=zeroValue20
 t21:=underlying21
 a21:=isAgg21
 z21:=sizeOf21
 v21:=zeroValue21
 t37:=underlying150
 a37:=isAgg150
 z37:=sizeOf150
 v37:=zeroValue150
 t46:=underlying228
 a46:=isAgg228
 z46:=sizeOf228
 v46:=zeroValue228
 t51:=underlying239
 a51:=isAgg239
 z51:=sizeOf239
 v51:=zeroValue239
 t53:=underlying211
 a53:=isAgg211
 z53:=sizeOf211
 v53:=zeroValue211
 t75:=underlying155
 a75:=isAgg155
 z75:=sizeOf155
 v75:=zeroValue155
 t76:=underlying156
 a76:=isAgg156
 z76:=sizeOf156
 v76:=zeroValue156
 t85:=underlying217
 a85:=isAgg217
 z85:=sizeOf217
 v85:=zeroValue217
 t127:=underlying198
 a127:=isAgg198
 z127:=sizeOf198
 v127:=zeroValue198
 t143:=underlying257
 a143:=isAgg257
 z143:=sizeOf257
 v143:=zeroValue257
 t145:=underlying259
 a145:=isAgg259
 z145:=sizeOf259
 v145:=zeroValue259
 t167:=underlying216
 a167:=isAgg216
 z167:=sizeOf216
 v167:=zeroValue216
 t168:=underlying219
 a168:=isAgg219
 z168:=sizeOf219
 v168:=zeroValue219
 t171:=underlying210
 a171:=isAgg210
 z171:=sizeOf210
 v171:=zeroValue210
 t173:=underlying214
 a173:=isAgg214
 z173:=sizeOf214
 v173:=zeroValue214
 t175:=underlying241
 a175:=isAgg241
 z175:=sizeOf241
 v175:=zeroValue241
 t210:=underlying244
 a210:=isAgg244
 z210:=sizeOf244
 v210:=zeroValue244
 t212:=underlying238
 a212:=isAgg238
 z212:=sizeOf238
 v212:=zeroValue238
 t213:=underlying240
 a213:=isAgg240
 z213:=sizeOf240
 t232:=underlying268
 a232:=isAgg268
 z232:=sizeOf268
 v232:=zeroValue268
 t233:=underlying269
 a233:=isAgg269
 z233:=sizeOf269
 v233:=zeroValue269
 g15:=by kernel_rfl
 g16:=by kernel_rfl
 g17:=by kernel_rfl
 g18:=by kernel_rfl
 g19:=by kernel_rfl}
def Tryz.sorted200_ren:Go.Shelf.Ren:=⟨fun | 6=>200 | 8=>228 | 9=>229 | 11=>253 | 13=>255 | 12=>254 | 23=>280 | 24=>257 | 14=>271 | 15=>272 | 16=>273 | 17=>274 | 18=>275 | 19=>276 | 20=>277 | 21=>278 | 22=>279 | 25=>286 | 26=>287 | 27=>288 | 28=>289 | 29=>290 | 30=>291 | 31=>292 | n=>n,fun | 26=>9 | 28=>196 | 24=>25 | 0=>0 | 3=>3 | 37=>228 | 48=>239 | 50=>211 | 4=>4 | 40=>249 | 39=>248 | 45=>253 | 5=>5 | 9=>9 | 51=>262 | 55=>266 | 57=>270 | 58=>88 | 33=>46 | n=>n,fun | n=>n⟩
theorem Tryz.sorted200:Go.Proofs.SlLaysZ.n6 prog Tryz.sorted200_ren:={
 mixed:=by kernel_rfl
 f6:=⟨Tryz.f200.name,by decide,Go.AL.Xt func200⟩
 f8:=⟨Tryz.f228.name,by decide,Go.AL.Xt func228⟩
 f11:=⟨Tryz.f253.name,by decide,Go.AL.Xt func253⟩
 t0:=underlying0
 a0:=isAgg0
 z0:=sizeOf0
 v0:=zeroValue0
 t24:=underlying25
 a24:=isAgg25
 z24:=sizeOf25
 v24:=zeroValue25
 t26:=underlying9
 a26:=isAgg9
 z26:=sizeOf9
 v26:=zeroValue9
 t28:=underlying196
 a28:=isAgg196
 z28:=sizeOf196
 v28:=zeroValue196
 i26:=by kernel_rfl}
end Go.Proofs
end
section
namespace Go.Proofs
open Go.RowKit Go.Shelf Go.AL
variable [Tabs]
attribute [local go_sem] Oper.semAt_some
set_option maxRecDepth 100000 in
set_option maxHeartbeats 2000000 in
theorem Tryz.values1 (F:Fence) (n:Nat) (h7:F.fn 230) (hro:F.round=none) (hn:1<=n) (l Bs Bo b off len cap:Nat) (zs:List Str) (hreach:len<=maxLen) (J:List Str→World→Prop) (hBl:∀pre W,J pre W→W.cell? ⟨Bs,Bo,none⟩=some (.slice (some ⟨b,off,none⟩) len cap)/\∀j,j < len→W.cell? ⟨b,off+j,none⟩=some (encStr (zs[j]?.getD [])))
  (hY:∀pre x W,J pre W→pre.length < len→YieldAt F (n - 1) Tryz.prog l #[encStr x] W fun e W'=>e=.returned (.bool true)/\J (pre++[x]) W')
  (W:World) (h0:J [] W) :
  CallsIn F n Tryz.prog 230 #[.func (.yield l) #[] #[],.pointer (some ⟨Bs,Bo,none⟩)] W fun e W'=>(∃v,e=.returned v)/\∃ys,ys=rF (fun j=>zs[j]?.getD []) len/\J ys W':=by
 obtain ⟨hBs,hc⟩:=hBl _ _ h0
 refine callsIn_of_wp Tryz.func230 rfl h7 ?_ hro
 simp only [Tryz.ntmps230,List.size_toArray,List.length_cons,List.length_nil,Nat.reduceAdd,Nat.reduceSub,Array.replicate_succ,Array.replicate_zero,List.push_toArray,List.append_toArray,List.nil_append,List.cons_append]
 gi_wp2
 gi_loopw [7] (fun i wr=>∃k:Nat,k<=len/\i=.int .i64 k/\J (rF (fun j=>zs[j]?.getD []) k) wr)
  (fun i _=>len - (intOf i).toNat)
 case atStart=>exact ⟨0,Nat.zero_le _,rfl,h0⟩
 case round=>
  obtain ⟨k,hk,rfl,hJs⟩:=hrel
  have hcx:k < len→wr.cell? ⟨b,off+k,none⟩=some (encStr (zs[k]?.getD [])):=fun h=>(hBl _ _ hJs).2 k h
  by_cases hlt:k < len
  ·obtain ⟨fn,tmps,assign,body,hy,hR⟩:=hY _ (zs[k]?.getD []) wr hJs (by rw [vm];exact hlt)
   have hcx':=hcx hlt
   have hsmall:(k:Int)+1<=9223372036854775807:=by unfold maxLen at hreach;omega
   gi_wp2
   refine hR.mono ?_
   rintro e W3 ⟨rfl,hJ3⟩
   gi_wp2
   go_roundw
   case rel=>exact ⟨k+1,by omega,by simp,by rw [AU];exact hJ3⟩
   case measure=>simp [intOf];omega
  ·obtain rfl:k=len:=by omega
   gi_wp2
   go_end0
   exact ⟨⟨_,rfl⟩,_,rfl,hJs⟩
set_option maxRecDepth 100000 in
set_option maxHeartbeats 1000000 in
theorem Tryz.values1_nil (F:Fence) (n:Nat) (h7:F.fn 230) (hro:F.round=none) (l Bs Bo cap:Nat) (a:Option Addr) (J:List Str→World→Prop) (W:World) (hBs:W.cell? ⟨Bs,Bo,none⟩=some (.slice a 0 cap)) (h0:J [] W) :
  CallsIn F n Tryz.prog 230 #[.func (.yield l) #[] #[],.pointer (some ⟨Bs,Bo,none⟩)] W fun e W'=>(∃v,e=.returned v)/\J [] W':=by
 refine callsIn_of_wp Tryz.func230 rfl h7 ?_ hro
 simp only [Tryz.ntmps230,List.size_toArray,List.length_cons,List.length_nil,Nat.reduceAdd,Nat.reduceSub,Array.replicate_succ,Array.replicate_zero,List.push_toArray,List.append_toArray,List.nil_append,List.cons_append]
 gi_wp2
 gi_loopw [7] (fun i wr=>i=.int .i64 0/\J [] wr) (fun _ _=>0)
 case atStart=>exact ⟨rfl,h0⟩
 case round=>
  obtain ⟨rfl,hJs⟩:=hrel
  gi_wp2
  go_end0
  exact ⟨⟨_,rfl⟩,hJs⟩
theorem Tryz.valuesL:tK Tryz.prog 230:=by
 intro w b o sv zs hz hc hs l J W a1 a2 a3 a4 a5
 have hb:=bd hc
 rcases hs with ⟨⟨a,cap,rfl⟩,rfl⟩ | ⟨g,off,cap,rfl,hg,hcs⟩
 ·refine (Tryz.values1_nil Fence.wide 2 trivial rfl l b o cap a J W ((a1.cell (p:=⟨b,o,none⟩) hb).trans hc) a5).mono ?_
  rintro e W' ⟨h1,h2⟩
  exact ⟨h1,[],rfl,h2⟩
 ·refine (Tryz.values1 Fence.wide 2 trivial rfl (by omega) l b o g off zs.length cap zs hz J (fun pre W1 hJ=>⟨((a3 _ _ hJ).cell (p:=⟨b,o,none⟩) hb).trans hc,fun j hj=>((a3 _ _ hJ).cell (p:=⟨g,off+j,none⟩) hg).trans (hcs j hj)⟩)
   (fun pre x W1 h1 h2=>(a4 pre x W1 h1 h2).mono fun e W' h=>⟨h.1,h.2.1⟩) W a5).mono ?_
  rintro e W' ⟨h1,ys,h2,h3⟩
  exact ⟨h1,ys,by rw [h2,D9],h3⟩
end Go.Proofs
end
section
namespace Go.AL.Seat
open Go Go.AL Go.Proofs Go.Shelf Go.Pd
variable [Tabs]
theorem GX:SortL Tryz.prog Tryz.sorted200_ren:=
 ⟨Tryz.sorted200,⟨fun blk off cap ss W hH hblk hsz=>callsIn_wide.2 (Any.slices_Sort_string Tryz.lays190 blk off cap ss W hH hblk hsz),fun p cap W=>callsIn_wide.2 (Any.slices_Sort_string_none Tryz.lays190 p cap W)⟩,enters_of Tryz.func229 (by kernel_rfl) rfl⟩
theorem qG:ad Tryz.prog 200 (mg 230):=
 rH GX rfl (enters_of Tryz.func230 (by kernel_rfl) rfl) Tryz.valuesL (au.mk' Tryz.func200 (by kernel_rfl))
theorem oJ:ad Tryz.prog 202 mh:=rI Tryz.lays194 rfl (au.mk' Tryz.func202 (by kernel_rfl))
theorem vQ:ad Tryz.prog 164 (p1 .str fun t=>⟨some (kc t),none,.tup [.int .i64 (jl t),.nilif],[]⟩):=xT Tryz.lays172 rfl (au.mk' Tryz.func164 (by kernel_rfl))
end Go.AL.Seat
end
