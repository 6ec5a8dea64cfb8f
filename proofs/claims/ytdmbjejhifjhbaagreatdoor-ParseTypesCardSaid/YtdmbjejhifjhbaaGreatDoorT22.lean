/- Plain facts. No condition. -/
import Derived.Test.YtdmbjejhifjhbaaGreatDoorT21
import Derived.Laws.OwnMore
import Derived.Test.YtdmbjejhifjhbaaGreatDoorProg
import Derived.WalkKit
set_option linter.unusedVariables false
set_option linter.unusedSimpArgs false
set_option linter.unnecessarySimpa false
set_option linter.deprecated false
set_option linter.unusedSectionVars false
set_option maxRecDepth 100000
section
namespace Go.Pd
open Go.AL
mutual
def sizeF:Shape→Int→Int
 | ⟨_,_,_,_,ps⟩,m=>sizeL ps 1 m
def sizeL:List Shape→Int→Int→Int
 | [],n,_=>n
 | p ::r,n,m=>if n<=m then sizeL r (n+sizeF p (m - n)) m else n
end
mutual
theorem sizeF_bd:∀(s:Shape) (m:Int),0<=m→1<=sizeF s m/\sizeF s m<=m+1
 | ⟨_,_,_,_,ps⟩,m,h=>by
  simp only [sizeF]
  exact sizeL_bd ps 1 m (by omega) (by omega)
theorem sizeL_bd:∀(l:List Shape) (n m:Int),1<=n→n<=m+1→1<=sizeL l n m/\sizeL l n m<=m+1
 | [],n,m,h1,h2=>by simp only [sizeL];omega
 | p ::r,n,m,h1,h2=>by
  simp only [sizeL]
  split
  ·have:=sizeF_bd p (m - n) (by omega)
   exact sizeL_bd r _ m (by omega) (by omega)
  ·omega
end
def cl:Str→Nat
 | []=>0
 | b ::r=>if bA (bI b)=true then cl r+1 else 0
theorem tB:∀s:Str,(cl s=s.length↔(s.all fun c=>bA (bI c))=true)
 | []=>by simp [cl]
 | b ::r=>by
  simp only [cl,List.length_cons,List.all_cons,Bool.and_eq_true]
  by_cases h:bA (bI b)=true
  ·rw [if_pos h,←tB r]
   constructor
   ·intro e;exact ⟨h,by omega⟩
   ·rintro ⟨_,e⟩;omega
  ·rw [if_neg h]
   constructor
   ·intro e;omega
   ·rintro ⟨e,_⟩;exact absurd e h
theorem rI:∀s:Str,cl s<=s.length
 | []=>Nat.le_refl _
 | b ::r=>by
  have:=rI r
  simp only [cl,List.length_cons]
  split <;> omega
theorem pm (first:Int→Bool) (s:Str):ew first s=(!decide (s=[]) && decide (s.length<=24) && first (bI (s.getD 0 0)) && decide (cl s=s.length)):=by
 unfold ew
 congr 1
 rw [Bool.eq_iff_iff,decide_eq_true_eq]
 exact (tB s).symm
def gK (ns:List Str) (n:Int):Bool:=decide ((ns.length:Int)=n) && ns.all aU && decide ns.Nodup
mutual
def deepF:Shape→Nat
 | ⟨_,_,_,_,ps⟩=>maxDeep ps+1
def maxDeep:List Shape→Nat
 | []=>0
 | p ::r=>max (deepF p) (maxDeep r)
end
mutual
theorem deepS_F:∀(s:Shape) (l:Int),deepS s l=l+deepF s - 1
 | ⟨_,_,_,_,ps⟩,l=>by
  simp only [deepS,deepF]
  rw [deepL_F ps (l+1) l (by omega)]
  omega
theorem deepL_F:∀(ps:List Shape) (m d:Int),m - 1<=d→deepL ps m d=max d (m+maxDeep ps - 1)
 | [],m,d,h=>by simp only [deepL,maxDeep];omega
 | p ::r,m,d,h=>by
  simp only [deepL,maxDeep]
  rw [deepL_F r m _ (by omega),deepS_F p m]
  omega
end
mutual
theorem deepF_sz:∀s:Shape,deepF s<=sz s
 | ⟨_,_,_,_,ps⟩=>by
  have:=maxDeep_sz ps
  simp only [deepF,sz]
  omega
theorem maxDeep_sz:∀l:List Shape,maxDeep l<=szL l
 | []=>Nat.le_refl _
 | p ::r=>by
  have:=deepF_sz p
  have:=maxDeep_sz r
  simp only [maxDeep,szL]
  omega
end
mutual
theorem sizeF_eq:∀(s:Shape) (m:Int),0<=m→sizeF s m=min (sz s:Int) (m+1)
 | ⟨_,_,_,_,ps⟩,m,h=>by
  simp only [sizeF,sz]
  rw [sizeL_eq ps 1 m (by omega)]
  omega
theorem sizeL_eq:∀(l:List Shape) (n m:Int),n<=m+1→sizeL l n m=min (n+szL l) (m+1)
 | [],n,m,h=>by simp only [sizeL,szL];omega
 | p ::r,n,m,h=>by
  simp only [sizeL,szL]
  have:=jl p
  split
  ·rw [sizeF_eq p (m - n) (by omega),sizeL_eq r _ m (by omega)]
   omega
  ·omega
end
theorem J3 (s:Shape):bK s=if 400 < sizeF s 400 then 3 else if 40 < (deepF s:Int) then 91 else if allS bw s=true then 0 else 70:=by
 unfold bK
 rw [sizeF_eq s 400 (by omega),deepS_F]
 have e:(1:Int)+deepF s - 1=deepF s:=by omega
 rw [e]
 by_cases h:400 < sz s
 ·rw [if_pos h,if_pos (show (400:Int) < min (sz s:Int) (400+1) by omega)]
 ·rw [if_neg h,if_neg (show ¬(400:Int) < min (sz s:Int) (400+1) by omega)]
end Go.Pd
end
section
namespace Go.Pd
open Go.AL
def eT (p:Int):Bool:=decide (0<=p) && decide (p<=1114111) && (decide (p < 55296) || decide (57343 < p))
def jL (n:Int):UInt8:=UInt8.ofNat n.toNat
def dD (p:Int):Str:=
 if p < 128 then [jL p]
 else if p < 2048 then [jL (192+p / 64),jL (128+p % 64)]
 else if p < 65536 then [jL (224+p / 4096),jL (128+p / 64 % 64),jL (128+p % 64)]
 else [jL (240+p / 262144),jL (128+p / 4096 % 64),jL (128+p / 64 % 64),jL (128+p % 64)]
def cI (s:Str):Nat:=if 240<=bI (s.getD 0 0) then 4 else if 224<=bI (s.getD 0 0) then 3 else if 192<=bI (s.getD 0 0) then 2 else 1
def gi (s:Str):Int:=if 240<=bI (s.getD 0 0) then bI (s.getD 0 0) - 240 else if 224<=bI (s.getD 0 0) then bI (s.getD 0 0) - 224 else if 192<=bI (s.getD 0 0) then bI (s.getD 0 0) - 192 else bI (s.getD 0 0)
def bE (s:Str):Nat→Int
 | 0=>gi s
 | 1=>gi s
 | k+2=>bE s (k+1) *64+bI (s.getD (k+1) 0) - 128
def fW (s:Str):Int × Int:=
 if s=[] then (0,0) else if s.length < cI s then (0,0)
 else if eT (bE s (cI s))=true/\dD (bE s (cI s))=s.take (cI s) then (bE s (cI s),cI s) else (0,0)
abbrev TK3:=Tokn × Int × Flt
def jm:Tokn:=⟨0,[],0⟩
def mc:TK3:=(jm,0,⟨60,0⟩)
def okK (k:Int) (t:Str) (n:Int):TK3:=(⟨k,t,0⟩,n,⟨0,0⟩)
def mw (s:Str):Bool:=s.all cx && decide (1<=s.length) && decide (s.length<=15) && (decide (s.length=1) || !decide (bI (s.getD 0 0)=48))
def bC (s:Str):Nat→Str→Nat→TK3
 | 0,_,_=>mc
 | n+1,acc,i=>
  if i < s.length then
   if bI (s.getD i 0)=34 then okK 4 acc (i+1)
   else if bI (s.getD i 0) < 32 then mc
   else if bI (s.getD i 0)=92 then
    if i+1=s.length then mc
    else match ij (bI (s.getD (i+1) 0)) with
     | none=>mc
     | some x=>bC s n (acc++[UInt8.ofNat x.toNat]) (i+2)
   else if cw (s.drop i)=0 then (jm,0,⟨30,i⟩)
   else bC s n (acc++(s.drop i).take (cw (s.drop i))) (i+cw (s.drop i))
  else mc
def dh (s:Str):TK3:=bC s (s.length+2) [] 1
def lU (s:Str):TK3:=
 if j9 (s.take (cl s))=true then okK 5 (s.take (cl s)) (cl s)
 else if aU (s.take (cl s))=true then okK 1 (s.take (cl s)) (cl s)
 else if cZ (s.take (cl s))=true then okK 2 (s.take (cl s)) (cl s)
 else mc
def lV (t:Str) (n:Int):TK3:=
 if mw t=true then okK 3 t n else if (bY t).2=0 then okK 7 t n else mc
def nF (s:Str):TK3:=
 if 2<=s.length/\fS (s.take 2)=true then okK 6 (s.take 2) 2 else if fS (s.take 1)=true then okK 6 (s.take 1) 1 else mc
def bV (s:Str):TK3:=
 if bJ (bI (s.getD 0 0))=true∨bP (bI (s.getD 0 0))=true then lU s
 else if aM (bI (s.getD 0 0))=true then lV (s.take (ae aF s 0)) (ae aF s 0)
 else if bI (s.getD 0 0)=34 then dh s
 else nF s
def ki (s:Str):Nat→Nat→Int × Flt
 | 0,n=>(n,⟨0,0⟩)
 | f+1,n=>if n < s.length/\bI (s.getD n 0)≠10 then (if cw (s.drop n)=0 then (0,⟨30,n⟩) else ki s f (n+cw (s.drop n))) else (n,⟨0,0⟩)
def bd (s:Str):Int × Flt:=
 if s.length<=ae aH s 0+1∨bI (s.getD (ae aH s 0) 0)≠45∨bI (s.getD (ae aH s 0+1) 0)≠45 then ((ae aH s 0:Int),⟨0,0⟩) else ki s (s.length+1) (ae aH s 0)
def HU (t:Tokn) (a:Int):Tokn:=⟨t.kind,t.text,a⟩
def fX (s:Str):Nat→Nat→List Tokn→List Tokn × Flt
 | 0,_,_=>([],⟨0,0⟩)
 | f+1,a,out=>
  if a < s.length then
   if ¬(bd (s.drop a)).2.err=0 then ([],⟨(bd (s.drop a)).2.err,a+(bd (s.drop a)).2.pos⟩)
   else if 0 < (bd (s.drop a)).1 then fX s f (a+(bd (s.drop a)).1.toNat) out
   else if ¬(bV (s.drop a)).2.2.err=0 then ([],⟨(bV (s.drop a)).2.2.err,a+(bV (s.drop a)).2.2.pos⟩)
   else fX s f (a+(bV (s.drop a)).2.1.toNat) (out++[HU (bV (s.drop a)).1 a])
  else (out++[⟨0,[],(s.length:Int)⟩],⟨0,0⟩)
def fY (s:Str):List Tokn × Flt:=if 4096 < s.length then ([],⟨3,4096⟩) else fX s (s.length+2) 0 []
end Go.Pd
end
section
namespace Go.Pd
open Go.AL
theorem Af (s:Str):decide (s∈([[40],[41],[123],[125],[91],[93],[60],[62],[60,61],[62,61],[61],[94],[42],[44],[58],[46],[47],[64],[124],[45,62]]:List Str))=fS s:=by
 unfold fS EX
 match s with
 | []=>decide
 | [a]=>simp [eq_comm]
 | [a,b]=>
  simp only [List.mem_cons,List.cons.injEq,List.not_mem_nil,or_false,false_or,reduceCtorEq,and_false,List.length_cons,List.length_nil,Bool.decide_or]
  simp only [decide_false,Bool.false_or,Bool.or_false,and_true]
  simp [Bool.or_assoc]
 | a ::b ::c ::r=>simp
theorem Dp (s:Str):s∈([[40],[41],[123],[125],[91],[93],[60],[62],[60,61],[62,61],[61],[94],[42],[44],[58],[46],[47],[64],[124],[45,62]]:List Str)↔fS s=true:=by
 rw [←Af]
 exact decide_eq_true_iff.symm
theorem fj {n:Int} {b:UInt8} (h0:0<=n) (h1:n<=255):jL n=b↔n=bI b:=by
 unfold jL bI
 constructor
 ·intro e
  rw [←e,UInt8.toNat_ofNat']
  have:n.toNat % 2 ^ 8=n.toNat:=Nat.mod_eq_of_lt (by omega)
  rw [this]
  omega
 ·intro e
  rw [e,Int.toNat_natCast]
  exact UInt8.ofNat_toNat
theorem Gc {p:Int} (h:0<=p) (a:UInt8):dD p=[a]↔p < 128/\p=bI a:=by
 unfold dD
 split
 ·simp only [List.cons.injEq,and_true]
  rw [fj h (by omega)]
  omega
 ·refine ⟨fun e=>?_,fun e=>by omega⟩
  revert e
  split <;> (try split) <;> simp
theorem Gd {p:Int} (h:0<=p) (a b:UInt8):dD p=[a,b]↔128<=p/\p < 2048/\192+p / 64=bI a/\128+p % 64=bI b:=by
 unfold dD
 split
 ·refine ⟨fun e=>?_,fun e=>by omega⟩
  simp at e
 split
 ·simp only [List.cons.injEq,and_true]
  rw [fj (by omega) (by omega),fj (by omega) (by omega)]
  omega
 ·refine ⟨fun e=>?_,fun e=>by omega⟩
  revert e
  split <;> simp
theorem Ge {p:Int} (h:0<=p) (a b c:UInt8):dD p=[a,b,c]↔2048<=p/\p < 65536/\224+p / 4096=bI a/\128+p / 64 % 64=bI b/\128+p % 64=bI c:=by
 unfold dD
 split
 ·refine ⟨fun e=>?_,fun e=>by omega⟩
  simp at e
 split
 ·refine ⟨fun e=>?_,fun e=>by omega⟩
  simp at e
 split
 ·simp only [List.cons.injEq,and_true]
  rw [fj (by omega) (by omega),fj (by omega) (by omega),fj (by omega) (by omega)]
  omega
 ·refine ⟨fun e=>?_,fun e=>by omega⟩
  simp at e
theorem Gf {p:Int} (h:0<=p) (hp:p<=1114111) (a b c d:UInt8):dD p=[a,b,c,d]↔65536<=p/\240+p / 262144=bI a/\128+p / 4096 % 64=bI b/\128+p / 64 % 64=bI c/\128+p % 64=bI d:=by
 unfold dD
 split
 ·refine ⟨fun e=>?_,fun e=>by omega⟩
  simp at e
 split
 ·refine ⟨fun e=>?_,fun e=>by omega⟩
  simp at e
 split
 ·refine ⟨fun e=>?_,fun e=>by omega⟩
  simp at e
 ·simp only [List.cons.injEq,and_true]
  rw [fj (by omega) (by omega),fj (by omega) (by omega),fj (by omega) (by omega),fj (by omega) (by omega)]
  omega
theorem kj (p:Int):eT p=true↔0<=p/\p<=1114111/\(p < 55296∨57343 < p):=by
 unfold eT
 simp only [Bool.and_eq_true,Bool.or_eq_true,decide_eq_true_eq,and_assoc]
theorem pn (s:Str):(fW s).2=(cw s:Int):=by
 match s with
 | []=>rfl
 | b ::r=>
  rw [F2]
  have hb:=UInt8.toNat_lt b
  have e0:bI ((b ::r).getD 0 0)=(b.toNat:Int):=rfl
  unfold fW
  rw [if_neg (List.cons_ne_nil _ _)]
  by_cases c4:240<=(b.toNat:Int)
  ·have hL:cI (b ::r)=4:=by unfold cI;rw [e0,if_pos c4]
   rw [hL]
   match r with
   | []=>rw [if_pos (by simp)];unfold lj;simp only [List.length_nil];(repeat' split) <;> first | rfl | omega
   | [c1]=>rw [if_pos (by simp)];unfold lj;simp only [List.length_cons,List.length_nil];(repeat' split) <;> first | rfl | omega
   | [c1,c2]=>rw [if_pos (by simp)];unfold lj;simp only [List.length_cons,List.length_nil];(repeat' split) <;> first | rfl | omega
   | c1 ::c2 ::c3 ::r=>
    have h1:=UInt8.toNat_lt c1
    have h2:=UInt8.toNat_lt c2
    have h3:=UInt8.toNat_lt c3
    have hf:bE (b ::c1 ::c2 ::c3 ::r) 4=((((b.toNat:Int) - 240) *64+c1.toNat - 128) *64+c2.toNat - 128) *64+c3.toNat - 128:=by
     have:gi (b ::c1 ::c2 ::c3 ::r)=(b.toNat:Int) - 240:=by unfold gi;rw [show bI ((b ::c1 ::c2 ::c3 ::r).getD 0 0)=(b.toNat:Int) from rfl,if_pos c4]
     unfold bE bE bE bE
     rw [this]
     rfl
    rw [if_neg (by simp),hf]
    have ht:(b ::c1 ::c2 ::c3 ::r).take 4=[b,c1,c2,c3]:=rfl
    rw [ht]
    generalize hp:((((b.toNat:Int) - 240) *64+c1.toNat - 128) *64+c2.toNat - 128) *64+c3.toNat - 128=p
    have key:(eT p=true/\dD p=[b,c1,c2,c3])↔(0<=p/\p<=1114111/\(p < 55296∨57343 < p))/\(65536<=p/\240+p / 262144=(b.toNat:Int)/\128+p / 4096 % 64=(c1.toNat:Int)/\128+p / 64 % 64=(c2.toNat:Int)/\128+p % 64=(c3.toNat:Int)):=by
     rw [kj]
     exact and_congr_right fun e=>Gf e.1 e.2.1 _ _ _ _
    unfold lj
    simp only [List.length_cons,List.getD_cons_zero,List.getD_cons_succ]
    rw [show p / 4096=p / 64 / 64 by omega,show p / 262144=p / 64 / 64 / 64 by omega] at key
    generalize hu:p / 64=u at key
    generalize hv:u / 64=v at key
    generalize hw:v / 64=w at key
    split
    ·next h=>
     have h:=key.1 h
     have x0:b.toNat / 8=30/\c1.toNat / 64=2/\c2.toNat / 64=2/\c3.toNat / 64=2:=by omega
     have x1:b.toNat % 8 *262144+c1.toNat % 64 *4096+c2.toNat % 64 *64+c3.toNat % 64=p.toNat:=by omega
     rw [x1,if_neg (by omega),if_neg (by omega),if_neg (by omega),if_pos ⟨x0.1,⟨by omega,x0.2.1⟩,⟨by omega,x0.2.2.1⟩,by omega,x0.2.2.2⟩,if_pos (by omega)]
    ·next h=>
     by_cases x0:b.toNat / 8=30/\c1.toNat / 64=2/\c2.toNat / 64=2/\c3.toNat / 64=2
     ·have x1:((b.toNat % 8 *262144+c1.toNat % 64 *4096+c2.toNat % 64 *64+c3.toNat % 64:Nat):Int)=p:=by omega
      have x2:¬((b.toNat % 8 *262144+c1.toNat % 64 *4096+c2.toNat % 64 *64+c3.toNat % 64)≥65536/\((b.toNat % 8 *262144+c1.toNat % 64 *4096+c2.toNat % 64 *64+c3.toNat % 64) < 55296∨57344<=(b.toNat % 8 *262144+c1.toNat % 64 *4096+c2.toNat % 64 *64+c3.toNat % 64)/\(b.toNat % 8 *262144+c1.toNat % 64 *4096+c2.toNat % 64 *64+c3.toNat % 64)<=1114111)):=fun e=>h (key.2 ⟨by omega,by omega⟩)
      rw [if_neg (by omega),if_neg (by omega),if_neg (by omega),if_pos ⟨x0.1,⟨by omega,x0.2.1⟩,⟨by omega,x0.2.2.1⟩,by omega,x0.2.2.2⟩,if_neg x2]
      rfl
     ·rw [if_neg (by omega),if_neg (by omega),if_neg (by omega),if_neg (fun e=>x0 ⟨e.1,e.2.1.2,e.2.2.1.2,e.2.2.2.2⟩)]
      rfl
  by_cases c3:224<=(b.toNat:Int)
  ·have hL:cI (b ::r)=3:=by unfold cI;rw [e0,if_neg c4,if_pos c3]
   rw [hL]
   match r with
   | []=>rw [if_pos (by simp)];unfold lj;simp only [List.length_nil];(repeat' split) <;> first | rfl | omega
   | [c1]=>rw [if_pos (by simp)];unfold lj;simp only [List.length_cons,List.length_nil];(repeat' split) <;> first | rfl | omega
   | c1 ::c2 ::r=>
    have h1:=UInt8.toNat_lt c1
    have h2:=UInt8.toNat_lt c2
    have hf:bE (b ::c1 ::c2 ::r) 3=(((b.toNat:Int) - 224) *64+c1.toNat - 128) *64+c2.toNat - 128:=by
     have:gi (b ::c1 ::c2 ::r)=(b.toNat:Int) - 224:=by unfold gi;rw [show bI ((b ::c1 ::c2 ::r).getD 0 0)=(b.toNat:Int) from rfl,if_neg c4,if_pos c3]
     unfold bE bE bE
     rw [this]
     rfl
    rw [if_neg (by simp),hf]
    have ht:(b ::c1 ::c2 ::r).take 3=[b,c1,c2]:=rfl
    rw [ht]
    generalize hp:(((b.toNat:Int) - 224) *64+c1.toNat - 128) *64+c2.toNat - 128=p
    have key:(eT p=true/\dD p=[b,c1,c2])↔(0<=p/\p<=1114111/\(p < 55296∨57343 < p))/\(2048<=p/\p < 65536/\224+p / 4096=(b.toNat:Int)/\128+p / 64 % 64=(c1.toNat:Int)/\128+p % 64=(c2.toNat:Int)):=by
     rw [kj]
     exact and_congr_right fun e=>Ge e.1 _ _ _
    unfold lj
    simp only [List.length_cons,List.getD_cons_zero,List.getD_cons_succ]
    rw [show p / 4096=p / 64 / 64 by omega] at key
    generalize hu:p / 64=u at key
    generalize hv:u / 64=v at key
    split
    ·next h=>
     have h:=key.1 h
     have x0:b.toNat / 16=14/\c1.toNat / 64=2/\c2.toNat / 64=2:=by omega
     have x1:b.toNat % 16 *4096+c1.toNat % 64 *64+c2.toNat % 64=p.toNat:=by omega
     rw [x1,if_neg (by omega),if_neg (by omega),if_pos ⟨x0.1,⟨by omega,x0.2.1⟩,by omega,x0.2.2⟩,if_pos (by omega)]
    ·next h=>
     by_cases x0:b.toNat / 16=14/\c1.toNat / 64=2/\c2.toNat / 64=2
     ·have x1:((b.toNat % 16 *4096+c1.toNat % 64 *64+c2.toNat % 64:Nat):Int)=p:=by omega
      have x2:¬((b.toNat % 16 *4096+c1.toNat % 64 *64+c2.toNat % 64)≥2048/\((b.toNat % 16 *4096+c1.toNat % 64 *64+c2.toNat % 64) < 55296∨57344<=(b.toNat % 16 *4096+c1.toNat % 64 *64+c2.toNat % 64)/\(b.toNat % 16 *4096+c1.toNat % 64 *64+c2.toNat % 64)<=1114111)):=fun e=>h (key.2 ⟨by omega,by omega⟩)
      rw [if_neg (by omega),if_neg (by omega),if_pos ⟨x0.1,⟨by omega,x0.2.1⟩,by omega,x0.2.2⟩,if_neg x2]
      rfl
     ·rw [if_neg (by omega),if_neg (by omega),if_neg (fun e=>x0 ⟨e.1,e.2.1.2,e.2.2.2⟩),if_neg (by omega)]
      rfl
  by_cases c2:192<=(b.toNat:Int)
  ·have hL:cI (b ::r)=2:=by unfold cI;rw [e0,if_neg c4,if_neg c3,if_pos c2]
   rw [hL]
   match r with
   | []=>rw [if_pos (by simp)];unfold lj;simp only [List.length_nil];(repeat' split) <;> first | rfl | omega
   | c1 ::r=>
    have h1:=UInt8.toNat_lt c1
    have hf:bE (b ::c1 ::r) 2=((b.toNat:Int) - 192) *64+c1.toNat - 128:=by
     have:gi (b ::c1 ::r)=(b.toNat:Int) - 192:=by unfold gi;rw [show bI ((b ::c1 ::r).getD 0 0)=(b.toNat:Int) from rfl,if_neg c4,if_neg c3,if_pos c2]
     unfold bE bE
     rw [this]
     rfl
    rw [if_neg (by simp),hf]
    have ht:(b ::c1 ::r).take 2=[b,c1]:=rfl
    rw [ht]
    generalize hp:((b.toNat:Int) - 192) *64+c1.toNat - 128=p
    have key:(eT p=true/\dD p=[b,c1])↔(0<=p/\p<=1114111/\(p < 55296∨57343 < p))/\(128<=p/\p < 2048/\192+p / 64=(b.toNat:Int)/\128+p % 64=(c1.toNat:Int)):=by
     rw [kj]
     exact and_congr_right fun e=>Gd e.1 _ _
    unfold lj
    simp only [List.length_cons,List.getD_cons_zero,List.getD_cons_succ]
    generalize hu:p / 64=u at key
    split
    ·next h=>
     have h:=key.1 h
     have x0:b.toNat / 32=6/\c1.toNat / 64=2:=by omega
     have x1:b.toNat % 32 *64+c1.toNat % 64=p.toNat:=by omega
     rw [x1,if_neg (by omega),if_pos ⟨x0.1,by omega,x0.2⟩,if_pos (by omega)]
    ·next h=>
     by_cases x0:b.toNat / 32=6/\c1.toNat / 64=2
     ·have x1:((b.toNat % 32 *64+c1.toNat % 64:Nat):Int)=p:=by omega
      generalize b.toNat % 32 *64+c1.toNat % 64=q at x1 ⊢
      have x2:¬(q≥128):=fun e=>h (key.2 ⟨by omega,by omega⟩)
      rw [if_neg (by omega),if_pos ⟨x0.1,by omega,x0.2⟩,if_neg x2]
      rfl
     ·rw [if_neg (by omega),if_neg (fun e=>x0 ⟨e.1,e.2.2⟩),if_neg (by omega),if_neg (by omega)]
      rfl
  ·have hL:cI (b ::r)=1:=by unfold cI;rw [e0,if_neg c4,if_neg c3,if_neg c2]
   rw [hL,if_neg (by simp)]
   have hf:bE (b ::r) 1=(b.toNat:Int):=by
    unfold bE gi
    rw [e0,if_neg c4,if_neg c3,if_neg c2]
   rw [hf]
   have ht:(b ::r).take 1=[b]:=rfl
   rw [ht]
   have key:(eT (b.toNat:Int)=true/\dD (b.toNat:Int)=[b])↔(b.toNat:Int) < 128:=by
    rw [kj,Gc (by omega)]
    constructor
    ·exact fun e=>e.2.1
    ·exact fun e=>⟨by omega,e,rfl⟩
   by_cases h:b.toNat < 128
   ·rw [if_pos (key.2 (by omega))];unfold lj;rw [if_pos h]
   ·rw [if_neg (fun e=>h (by have:=key.1 e;omega))];unfold lj;rw [if_neg h,if_neg (by omega),if_neg (by omega),if_neg (by omega)];rfl
theorem Bw (s:Str):cw s<=s.length:=by
 by_cases h:s=[]
 ·subst h;exact Nat.le_refl _
 by_cases e:cw s=0
 ·omega
 obtain ⟨_,h2,_,_,h5⟩:=jE h
 have:=h2 e
 omega
theorem km {s:Str} {n:Nat} (h:n<=s.length):n+cw (s.drop n)<=s.length:=by
 have:=Bw (s.drop n)
 rw [List.length_drop] at this
 omega
theorem lW {s:Str} {x:Nat} (h:x < s.length) (hb:aH (bI (s.getD x 0))=true) (w:ae aH s 0=x+ae aH s (x:Int)):ae aH s 0=(x+1:Nat)+ae aH s ((x+1:Nat):Int):=by
 have:=cp (pr:=aH) (s:=s) (a:=(x:Int)) (by omega) (by omega) (by rw [Int.toNat_natCast];exact hb)
 have e:((x+1:Nat):Int)=(x:Int)+1:=rfl
 rw [e]
 omega
theorem Ag {s:Str} {x:Nat} (h:x < s.length) (hb:aH (bI (s.getD x 0))=false) (w:ae aH s 0=x+ae aH s (x:Int)):ae aH s 0=x:=by
 have:=fI (pr:=aH) (s:=s) (a:=(x:Int)) (by omega) (by omega) (by rw [Int.toNat_natCast];exact hb)
 omega
theorem Dq {s:Str} {x:Nat} (h:s.length<=x) (w:ae aH s 0=x+ae aH s (x:Int)):ae aH s 0=x:=by
 have:=gA (pr:=aH) (s:=s) (a:=(x:Int)) (by omega)
 omega
theorem rJ (s:Str):∀(f n:Nat),n<=s.length→0<=(ki s f n).1/\(ki s f n).1<=(s.length:Int)/\0<=(ki s f n).2.pos/\(ki s f n).2.pos<=(s.length:Int)
 | 0,n,h=>⟨Int.natCast_nonneg n,by show (n:Int)<=_;omega,Int.le_refl 0,by show (0:Int)<=_;omega⟩
 | f+1,n,h=>by
  unfold ki
  split
  ·split
   ·exact ⟨Int.le_refl 0,by show (0:Int)<=_;omega,Int.natCast_nonneg n,by show (n:Int)<=_;omega⟩
   ·exact rJ s f _ (km h)
  ·exact ⟨Int.natCast_nonneg n,by show (n:Int)<=_;omega,Int.le_refl 0,by show (0:Int)<=_;omega⟩
theorem vm (s:Str):0<=(bd s).1/\(bd s).1<=(s.length:Int)/\0<=(bd s).2.pos/\(bd s).2.pos<=(s.length:Int):=by
 have h:=du (pr:=aH) (s:=s) (a:=0) (Int.le_refl 0) (by omega)
 unfold bd
 split
 ·exact ⟨Int.natCast_nonneg _,by show ((ae aH s 0:Nat):Int)<=_;omega,Int.le_refl 0,by show (0:Int)<=_;omega⟩
 ·exact rJ s _ _ (by omega)
def HV (s:Str) (x:TK3):Prop:=(x.2.2.err=0→1<=x.2.1/\x.2.1<=(s.length:Int))/\0<=x.2.2.pos/\x.2.2.pos<=(s.length:Int)
theorem jf (s:Str):HV s mc:=⟨fun e=>absurd e (by decide),Int.le_refl 0,by show (0:Int)<=_;omega⟩
theorem ly {s:Str} {k n:Int} {t:Str} (h1:1<=n) (h2:n<=(s.length:Int)):HV s (okK k t n):=⟨fun _=>⟨h1,h2⟩,Int.le_refl 0,by show (0:Int)<=_;omega⟩
theorem ko (s:Str):∀(f:Nat) (acc:Str) (i:Nat),i<=s.length→HV s (bC s f acc i)
 | 0,_,_,_=>jf s
 | f+1,acc,i,h=>by
  unfold bC
  split
  ·split
   ·exact ly (by omega) (by omega)
   split
   ·exact jf s
   split
   ·split
    ·exact jf s
    split
    ·exact jf s
    ·exact ko s f _ _ (by omega)
   split
   ·exact ⟨fun e=>absurd e (by decide:¬(30:Int)=0),Int.natCast_nonneg i,by show (i:Int)<=_;omega⟩
   ·exact ko s f _ _ (km h)
  ·exact jf s
theorem Dr {s:Str} (h:s≠[]) (hb:bA (bI (s.getD 0 0))=true):1<=cl s:=by
 match s with
 | []=>exact absurd rfl h
 | b ::r=>
  have hb:bA (bI b)=true:=hb
  unfold cl
  rw [if_pos hb]
  omega
theorem Ah {s:Str} (h:0 < s.length):HV s (bV s):=by
 have hl:=rI s
 have hw:=du (pr:=aF) (s:=s) (a:=0) (Int.le_refl 0) (by omega)
 unfold bV
 split
 ·next hb=>
  have hp:=Dr (s:=s) (by intro e;rw [e] at h;exact absurd h (by decide)) (by unfold bA;rcases hb with e | e <;> rw [e] <;> simp only [Bool.true_or,Bool.or_true])
  unfold lU
  split
  ·exact ly (by omega) (by omega)
  split
  ·exact ly (by omega) (by omega)
  split
  ·exact ly (by omega) (by omega)
  ·exact jf s
 split
 ·next hd=>
  have hp:=cp (pr:=aF) (s:=s) (a:=0) (Int.le_refl 0) (by omega) (by show aF (bI (s.getD 0 0))=true;unfold aF;rw [hd];simp only [Bool.true_or,Bool.or_true])
  unfold lV
  split
  ·exact ly (by omega) (by omega)
  split
  ·exact ly (by omega) (by omega)
  ·exact jf s
 split
 ·exact ko s _ _ _ h
 ·unfold nF
  split
  ·exact ly (by omega) (by omega)
  split
  ·exact ly (by omega) (by omega)
  ·exact jf s
theorem lz {s:Str} {x:Nat} (h:x < s.length) (hb:aF (bI (s.getD x 0))=true) (w:ae aF s 0=x+ae aF s (x:Int)):ae aF s 0=(x+1:Nat)+ae aF s ((x+1:Nat):Int):=by
 have:=cp (pr:=aF) (s:=s) (a:=(x:Int)) (by omega) (by omega) (by rw [Int.toNat_natCast];exact hb)
 have e:((x+1:Nat):Int)=(x:Int)+1:=rfl
 rw [e]
 omega
theorem Ds {s:Str} {x:Nat} (h:x < s.length) (hb:aF (bI (s.getD x 0))=false) (w:ae aF s 0=x+ae aF s (x:Int)):ae aF s 0=x:=by
 have:=fI (pr:=aF) (s:=s) (a:=(x:Int)) (by omega) (by omega) (by rw [Int.toNat_natCast];exact hb)
 omega
theorem Gg {s:Str} {x:Nat} (h:s.length<=x) (w:ae aF s 0=x+ae aF s (x:Int)):ae aF s 0=x:=by
 have:=gA (pr:=aF) (s:=s) (a:=(x:Int)) (by omega)
 omega
end Go.Pd
end
section
namespace Go.Pd
open Go.AL
def Jl:Str:=[48,49,50,51,52,53,54,55,56,57]
def kC (d:Nat):Str:=(Jl.take (d+1)).drop d
def nG:Nat→Nat→Str→Str
 | 0,_,acc=>acc
 | f+1,n,acc=>if 10<=n then nG f (n / 10) (kC (n / 10 % 10)++acc) else acc
def bU (n:Int):Str:=nG 20 n.toNat (kC (n.toNat % 10))
def hD (v:Vers):Str:=bU v.major++[46]++bU v.minor++[46]++bU v.patch++(if v.pre=[] then [] else [45]++v.pre)
def cz (v:Vers):Str × Int:=if bv v=0 then (hD v,0) else ([],40)
theorem nH (d:Nat):(kC d).length<=1:=by
 unfold kC
 rw [List.length_drop,List.length_take]
 omega
theorem xL:∀(f n:Nat) (acc:Str),(nG f n acc).length<=f+acc.length
 | 0,_,acc=>by show acc.length<=_;omega
 | f+1,n,acc=>by
  unfold nG
  split
  ·have:=xL f (n / 10) (kC (n / 10 % 10)++acc)
   have h:=nH (n / 10 % 10)
   rw [List.length_append] at this
   omega
  ·omega
theorem rK (n:Int):(bU n).length<=21:=by
 have:=xL 20 n.toNat (kC (n.toNat % 10))
 have h:=nH (n.toNat % 10)
 unfold bU
 omega
theorem lA {v:Vers} (h:bv v=0):(0<=v.major/\v.major<=999999)/\(0<=v.minor/\v.minor<=999999)/\(0<=v.patch/\v.patch<=999999)/\v.pre.length<=24:=by
 unfold bv at h
 split at h
 ·exact absurd h (by decide)
 split at h
 ·exact absurd h (by decide)
 omega
def rvL (s:Str):Nat→Nat→Nat→List Int→Option (List Int × Nat)
 | 0,_,_,_=>none
 | f+1,i,p,r=>
  if i < s.length/\¬bI (s.getD i 0)=45 then
   if bI (s.getD i 0)=46 then (if 2 < p+1 then none else rvL s f (i+1) (p+1) r)
   else if bI (s.getD i 0) < 48∨57 < bI (s.getD i 0) then none
   else rvL s f (i+1) p (if r.getD p 0<=999999 then r.set p (10 *r.getD p 0+(bI (s.getD i 0) - 48)) else r)
  else some (r,i)
def cM (s:Str) (r:List Int) (i:Nat):Vers:=⟨r.getD 0 0,r.getD 1 0,r.getD 2 0,if i < s.length then s.drop (i+1) else []⟩
def kq (s:Str):Option (List Int × Nat)→Vers × Int
 | none=>(noV,40)
 | some (r,i)=>if ¬(cz (cM s r i)).2=0∨¬(cz (cM s r i)).1=s then (noV,40) else (cM s r i,0)
def gL (s:Str):Vers × Int:=if 60 < s.length then (noV,40) else kq s (rvL s (s.length+1) 0 0 [0,0,0])
theorem HW {r:List Int} {p:Nat} {v:Int} (hl:r.length=3) (hp:p<=2) (hb:∀k,k < 3→0<=r.getD k 0/\r.getD k 0<=99999999) (h0:0<=v) (h1:v<=99999999):∀k,k < 3→0<=(r.set p v).getD k 0/\(r.set p v).getD k 0<=99999999:=by
 match r,hl with
 | [a,b,c],_=>
  intro k hk
  have e:p=0∨p=1∨p=2:=by omega
  have g:k=0∨k=1∨k=2:=by omega
  rcases e with rfl | rfl | rfl <;> rcases g with rfl | rfl | rfl <;> first | exact ⟨h0,h1⟩ | exact hb 0 (by decide) | exact hb 1 (by decide) | exact hb 2 (by decide)
end Go.Pd
end
section
namespace Go.Pd
open Go.AL
def kD (f n:Nat):Str:=nG f n (kC (n % 10))
theorem xM:∀(f n:Nat) (a b:Str),nG f n (a++b)=nG f n a++b
 | 0,_,_,_=>rfl
 | f+1,n,a,b=>by
  unfold nG
  split
  ·rw [←List.append_assoc];exact xM f _ _ b
  ·rfl
theorem kr {f n:Nat} (h:n < 10):kD f n=kC n:=by
 unfold kD
 rw [Nat.mod_eq_of_lt h]
 cases f with
 | zero=>rfl
 | succ f=>unfold nG;rw [if_neg (by omega)]
theorem lX {f n:Nat} (h:10<=n):kD (f+1) n=kD f (n / 10)++kC (n % 10):=by
 unfold kD
 show (if 10<=n then nG f (n / 10) (kC (n / 10 % 10)++kC (n % 10)) else _)=_
 rw [if_pos h,xM]
theorem nI {d:Nat} (h:d < 10):kC d=[UInt8.ofNat (48+d)]:=by
 have:d=0∨d=1∨d=2∨d=3∨d=4∨d=5∨d=6∨d=7∨d=8∨d=9:=by omega
 rcases this with rfl | rfl | rfl | rfl | rfl | rfl | rfl | rfl | rfl | rfl <;> rfl
theorem lY {d:Nat} (h:d < 10):(UInt8.ofNat (48+d)).toNat=48+d:=by
 rw [UInt8.toNat_ofNat']
 exact Nat.mod_eq_of_lt (by omega)
theorem rL (a:Str) (c:UInt8):bT (a++[c])=10 *bT a+((c.toNat:Int) - 48):=by
 unfold bT
 rw [List.foldl_append]
 rfl
theorem Gh {d:Nat} (h:d < 10):aM (bI (UInt8.ofNat (48+d)))=true:=by
 unfold aM bI
 rw [lY h,Xd (by omega),Bool.true_and,Xd (by omega)]
theorem rM:∀(f n:Nat),n < 10 ^ (f+1)→bT (kD f n)=(n:Int)/\((kD f n).all fun c=>aM (bI c))=true/\1<=(kD f n).length/\(kD f n).length<=f+1/\(1<=n→bI ((kD f n).getD 0 0)≠48)
 | f,n,h=>by
  by_cases hs:n < 10
  ·rw [kr hs,nI hs]
   refine ⟨?_,?_,Nat.le_refl _,by show 1<=f+1;omega,fun h1=>?_⟩
   ·show 10 *(0:Int)+(((UInt8.ofNat (48+n)).toNat:Int) - 48)=n
    rw [lY hs]
    omega
   ·rw [List.all_cons,Gh hs];rfl
   ·show ((UInt8.ofNat (48+n)).toNat:Int)≠48
    rw [lY hs]
    omega
  ·match f,h with
   | 0,h=>rw [Nat.zero_add,Nat.pow_one] at h;omega
   | f+1,h=>
    have h10:n / 10 < 10 ^ (f+1):=by
     rw [Nat.pow_succ] at h
     exact (Nat.div_lt_iff_lt_mul (by decide)).2 h
    obtain ⟨e1,e2,e3,e4,e5⟩:=rM f (n / 10) h10
    have hm:n % 10 < 10:=Nat.mod_lt _ (by decide)
    rw [lX (by omega),nI hm]
    refine ⟨?_,?_,?_,?_,fun _=>?_⟩
    ·rw [rL,e1,lY hm]
     omega
    ·rw [List.all_append,e2,List.all_cons,Gh hm];rfl
    ·rw [List.length_append];omega
    ·rw [List.length_append];show _+1<=_;omega
    ·have:=e5 (by omega)
     rw [List.getD_eq_getElem?_getD,List.getElem?_append_left (by omega),←List.getD_eq_getElem?_getD]
     exact this
theorem rN {c:UInt8} (h:aM (bI c)=true):48<=c.toNat/\c.toNat<=57:=by
 unfold aM bI at h
 rw [Bool.and_eq_true,decide_eq_true_eq,decide_eq_true_eq] at h
 omega
theorem rO:∀(l:Str),(l.all fun c=>aM (bI c))=true→∀a:Int,0<=a→a<=l.foldl (fun n c=>10 *n+((c.toNat:Int) - 48)) a
 | [],_,a,_=>Int.le_refl a
 | c ::r,h,a,ha=>by
  rw [List.all_cons,Bool.and_eq_true] at h
  have:=rN h.1
  have:=rO r h.2 (10 *a+((c.toNat:Int) - 48)) (by omega)
  show a<=r.foldl _ (10 *a+((c.toNat:Int) - 48))
  omega
theorem tC:∀(f:Nat) (t:Str),t.length<=f+1→t≠[]→(t.all fun c=>aM (bI c))=true→(1 < t.length→bI (t.getD 0 0)≠48)→kD f (bT t).toNat=t
 | f,t,hl,hn,ha,hz=>by
  rcases List.eq_nil_or_concat t with e | ⟨a,c,rfl⟩
  ·exact absurd e hn
  ·rw [List.concat_eq_append] at hl hn ha hz ⊢
   rw [List.all_append,Bool.and_eq_true,List.all_cons,Bool.and_eq_true] at ha
   have hc:=rN ha.2.1
   rw [rL]
   have ec:UInt8.ofNat (48+(c.toNat - 48))=c:=by
    rw [show 48+(c.toNat - 48)=c.toNat by omega]
    exact UInt8.ofNat_toNat
   by_cases e:a=[]
   ·subst e
    have e0:(10 *bT []+((c.toNat:Int) - 48)).toNat=c.toNat - 48:=by
     show (10 *(0:Int)+((c.toNat:Int) - 48)).toNat=_
     omega
    rw [e0,kr (by omega),nI (by omega),ec]
    rfl
   ·have hp:=List.length_pos_iff.2 e
    rw [List.length_append] at hl hz
    have hl:a.length+1<=f+1:=hl
    have hz:bI ((a++[c]).getD 0 0)≠48:=hz (by show 1 < a.length+1;omega)
    rw [List.getD_eq_getElem?_getD,List.getElem?_append_left hp,←List.getD_eq_getElem?_getD] at hz
    match f,hl with
    | 0,hl=>omega
    | f+1,hl=>
     have ih:=tC f a (by omega) e ha.1 (fun _=>hz)
     have hpos:1<=bT a:=by
      match a,ha.1,hz with
      | [],_,_=>exact absurd rfl e
      | x ::r,hx,hz=>
       rw [List.all_cons,Bool.and_eq_true] at hx
       have h1:=rN hx.1
       have hz:¬(x.toNat:Int)=48:=hz
       have:=rO r hx.2 (10 *0+((x.toNat:Int) - 48)) (by omega)
       show 1<=r.foldl _ (10 *0+((x.toNat:Int) - 48))
       omega
     have e1:(10 *bT a+((c.toNat:Int) - 48)).toNat / 10=(bT a).toNat:=by omega
     have e2:(10 *bT a+((c.toNat:Int) - 48)).toNat % 10=c.toNat - 48:=by omega
     rw [lX (by omega),e1,e2,ih,nI (by omega),ec]
end Go.Pd
end
section
namespace Go.Pd
open Go.AL
theorem tD:∀(f n:Nat),n < 10 ^ (f+1)→kD (f+1) n=kD f n
 | f,n,h=>by
  by_cases hs:n < 10
  ·rw [kr hs,kr hs]
  ·match f,h with
   | 0,h=>rw [Nat.zero_add,Nat.pow_one] at h;omega
   | f+1,h=>
    have h10:n / 10 < 10 ^ (f+1):=by
     rw [Nat.pow_succ] at h
     exact (Nat.div_lt_iff_lt_mul (by decide)).2 h
    have h':10<=n:=by omega
    rw [lX (f:=f+1) h',tD f _ h10,lX (f:=f) (n:=n) h']
theorem tE (n:Nat) (h:n < 10 ^ 6):∀j,kD (5+j) n=kD 5 n
 | 0=>rfl
 | j+1=>by
  rw [←tE n h j]
  exact tD (5+j) n (Nat.lt_of_lt_of_le h (Nat.pow_le_pow_right (by decide) (by omega)))
theorem Bx (n:Int):bU n=kD 20 n.toNat:=rfl
theorem gE {n:Int} (h0:0<=n) (h1:n<=999999):bT (bU n)=n/\((bU n).all fun c=>aM (bI c))=true/\bU n≠[]/\eH (bU n)=true:=by
 have hn:n.toNat < 10 ^ 6:=Nat.lt_of_le_of_lt (show n.toNat<=999999 by omega) (by decide)
 have e:bU n=kD 5 n.toNat:=by rw [Bx];exact tE n.toNat hn 15
 obtain ⟨e1,e2,e3,e4,e5⟩:=rM 5 n.toNat hn
 rw [e]
 have hne:kD 5 n.toNat≠[]:=fun q=>by rw [q] at e3;exact absurd e3 (by decide)
 refine ⟨by rw [e1];omega,e2,hne,?_⟩
 unfold eH bO
 rw [Xf hne,e2,Xd e4]
 by_cases hz:n.toNat=0
 ·rw [hz];rfl
 ·rw [Xf (p:=bI _=48) (e5 (by omega)),Bool.and_false]
  rfl
theorem HX {c x:UInt8} (h:aM (bI c)=true) (hx:x.toNat < 48):c≠x:=fun e=>by
 have:=rN h
 rw [e] at this
 omega
theorem iH {c:UInt8}:∀(a r:Str),(∀x∈a,x≠c)→splitB c (a++c ::r)=a ::splitB c r
 | [],r,_=>by show (if c=c then _ else _)=_;rw [if_pos rfl]
 | b ::a,r,h=>by
  have ih:=iH a r (fun x hx=>h x (List.mem_cons_of_mem _ hx))
  show (if b=c then _ else match splitB c (a++c ::r) with | []=>[[b]] | p ::ps=>(b ::p) ::ps)=_
  rw [if_neg (h b (List.mem_cons_self ..)),ih]
theorem rP {c:UInt8}:∀(a:Str),(∀x∈a,x≠c)→splitB c a=[a]
 | [],_=>rfl
 | b ::a,h=>by
  have ih:=rP a (fun x hx=>h x (List.mem_cons_of_mem _ hx))
  show (if b=c then _ else match splitB c a with | []=>[[b]] | p ::ps=>(b ::p) ::ps)=_
  rw [if_neg (h b (List.mem_cons_self ..)),ih]
def By (c:UInt8):List Str→Str
 | []=>[]
 | [a]=>a
 | a ::b ::r=>a++c ::By c (b ::r)
theorem lZ (c:UInt8):∀s:Str,splitB c s≠[]
 | []=>by simp [splitB]
 | b ::r=>by
  unfold splitB
  split
  ·simp
  ·split <;> simp
theorem po (c:UInt8):∀s:Str,By c (splitB c s)=s
 | []=>rfl
 | b ::r=>by
  have ih:=po c r
  have hn:=lZ c r
  unfold splitB
  split
  ·next e=>
   match hs:splitB c r with
   | []=>exact absurd hs hn
   | p ::ps=>
    rw [hs] at ih
    show []++c ::By c (p ::ps)=b ::r
    rw [ih,e];rfl
  ·match hs:splitB c r with
   | []=>exact absurd hs hn
   | [p]=>
    rw [hs] at ih
    show b ::p=b ::r
    exact congrArg _ ih
   | p ::q ::ps=>
    rw [hs] at ih
    show (b ::p)++c ::By c (q ::ps)=b ::r
    exact congrArg (b ::·) ih
theorem vn (p:UInt8→Bool):∀s:Str,(s.takeWhile p).length < s.length→p (s.getD (s.takeWhile p).length 0)=false
 | [],h=>absurd h (by simp)
 | b ::r,h=>by
  by_cases e:p b=true
  ·rw [List.takeWhile_cons_of_pos e] at h ⊢
   exact vn p r (by simpa using h)
  ·rw [List.takeWhile_cons_of_neg e]
   exact Bool.eq_false_iff.2 e
theorem Dt (s:Str):s=aD s++(if dA s=true then 45 ::cm s else []):=by
 have h:aD s++s.drop (aD s).length=s:=List.prefix_iff_eq_append.1 (List.takeWhile_prefix _)
 have hn:=vn (fun b=>!decide (b=45)) s
 unfold dA cm
 by_cases hm:(aD s).length < s.length
 ·rw [if_pos (Xd hm)]
  have hn:(!decide (s.getD (aD s).length 0=45))=false:=hn hm
  rw [Bool.not_eq_false'] at hn
  have hn:=Xo hn
  rw [aT s _ 0 hm,hn] at h
  exact h.symm
 ·rw [if_neg (fun e=>hm (Xo e)),List.append_nil]
  rw [List.drop_eq_nil_of_le (by omega),List.append_nil] at h
  exact h.symm
theorem Gi {x y:Str} (hx:∀c∈x,c≠45) (hy:y=[]∨∃r,y=45 ::r):aD (x++y)=x:=by
 unfold aD
 rw [List.takeWhile_append_of_pos (fun a ha=>by simpa using hx a ha)]
 rcases hy with rfl | ⟨r,rfl⟩
 ·simp
 ·rw [List.takeWhile_cons_of_neg (by simp),List.append_nil]
theorem m8 {t:Str} {x:UInt8} (h:(t.all fun c=>aM (bI c))=true) (hx:x.toNat < 48):∀c∈t,c≠x:=fun c hc=>HX (List.all_eq_true.1 h c hc) hx
theorem Ai {v:Vers} (h:bv v=0):bY (hD v)=(v,0):=by
 obtain ⟨⟨a1,a2⟩,⟨b1,b2⟩,⟨c1,c2⟩,_⟩:=lA h
 obtain ⟨p1,p2,p3,p4⟩:=gE a1 a2
 obtain ⟨q1,q2,q3,q4⟩:=gE b1 b2
 obtain ⟨r1,r2,r3,r4⟩:=gE c1 c2
 have e:hD v=(bU v.major++46 ::(bU v.minor++46 ::bU v.patch))++(if v.pre=[] then [] else 45 ::v.pre):=by
  unfold hD
  simp only [List.append_assoc,List.cons_append,List.nil_append]
 have hx:∀c∈bU v.major++46 ::(bU v.minor++46 ::bU v.patch),c≠45:=by
  intro c hc
  rw [List.mem_append,List.mem_cons,List.mem_append,List.mem_cons] at hc
  rcases hc with hc | rfl | hc | rfl | hc
  ·exact m8 p2 (by decide) c hc
  ·decide
  ·exact m8 q2 (by decide) c hc
  ·decide
  ·exact m8 r2 (by decide) c hc
 have hc:aD (hD v)=bU v.major++46 ::(bU v.minor++46 ::bU v.patch):=by
  rw [e]
  refine Gi hx ?_
  split
  ·exact .inl rfl
  ·exact .inr ⟨_,rfl⟩
 have hs:splitB 46 (aD (hD v))=[bU v.major,bU v.minor,bU v.patch]:=by
  rw [hc,iH _ _ (m8 p2 (by decide)),iH _ _ (m8 q2 (by decide)),rP _ (m8 r2 (by decide))]
 have hr:cm (hD v)=v.pre:=by
  unfold cm
  rw [hc]
  conv=>lhs;rw [e]
  rw [←List.drop_drop,List.drop_left]
  split
  ·next z=>rw [z];rfl
  ·rfl
 have hm:dA (hD v)=true→¬cm (hD v)=[]:=by
  intro m z
  rw [hr] at z
  unfold dA at m
  have m:=Xo m
  rw [hc] at m
  conv at m=>rhs;rw [e]
  rw [if_pos z,List.append_nil] at m
  omega
 rw [jc (by rw [hs];rfl) hm,hs]
 have hv:dH (hD v)=v:=by
  unfold dH
  rw [hs,hr]
  show (⟨bT (bU v.major),bT (bU v.minor),bT (bU v.patch),v.pre⟩:Vers)=v
  rw [p1,q1,r1]
 rw [hv,if_pos h,if_pos]
 rw [List.all_cons,List.all_cons,List.all_cons,p4,q4,r4]
 rfl
theorem mM {t:Str} (h:eH t=true):bU (bT t)=t:=by
 unfold eH bO at h
 simp only [Bool.and_eq_true,Bool.not_eq_true',decide_eq_false_iff_not,decide_eq_true_eq,Bool.and_eq_false_iff] at h
 obtain ⟨⟨⟨h1,h2⟩,h3⟩,h4⟩:=h
 rw [Bx]
 exact tC 20 t (by omega) h1 h2 (fun q=>h4.elim (fun z=>absurd q z) (fun z=>z))
theorem Aj {s:Str} (h:(bY s).2=0):hD (bY s).1=s/\bv (bY s).1=0:=by
 by_cases h3:(splitB 46 (aD s)).length=3
 ·by_cases hm:dA s=true→¬cm s=[]
  ·rw [jc h3 hm] at h ⊢
   by_cases hn:(splitB 46 (aD s)).all eH=true
   ·rw [if_pos hn] at h ⊢
    by_cases hc:bv (dH s)=0
    ·rw [if_pos hc] at h ⊢
     refine ⟨?_,hc⟩
     have hj:=po 46 (aD s)
     have hcr:=Dt s
     have ht:(if cm s=[] then [] else [45]++cm s)=if dA s=true then 45 ::cm s else []:=by
      by_cases m:dA s=true
      ·rw [if_pos m,if_neg (hm m)];rfl
      ·rw [if_neg m,if_pos]
       unfold dA at m
       have m:¬(aD s).length < s.length:=fun e=>m (Xd e)
       unfold cm
       exact List.drop_eq_nil_of_le (by omega)
     show bU (dH s).major++[46]++bU (dH s).minor++[46]++bU (dH s).patch++(if cm s=[] then [] else [45]++cm s)=s
     rw [ht]
     unfold dH
     match hl:splitB 46 (aD s),h3 with
     | [a,b,c],_=>
      rw [hl] at hn hj
      rw [List.all_cons,List.all_cons,List.all_cons,Bool.and_eq_true,Bool.and_eq_true,Bool.and_eq_true] at hn
      show bU (bT a)++[46]++bU (bT b)++[46]++bU (bT c)++_=s
      rw [mM hn.1,mM hn.2.1,mM hn.2.2.1]
      have hj:a++46 ::(b++46 ::c)=aD s:=hj
      conv=>rhs;rw [hcr,←hj]
      simp only [List.append_assoc,List.cons_append,List.nil_append]
    ·rw [if_neg hc] at h;exact absurd h (by decide)
   ·rw [if_neg hn] at h;exact absurd h (by decide)
  ·have:dA s=true/\cm s=[]:=by
    by_cases m:dA s=true
    ·by_cases z:cm s=[]
     ·exact ⟨m,z⟩
     ·exact absurd (fun _=>z) hm
    ·exact absurd (fun q=>absurd q m) hm
   rw [pc this.1 this.2] at h
   exact absurd h (by decide)
 ·rw [pb h3] at h
  exact absurd h (by decide)
theorem Ak (s:Str):(bY s).2=0∨bY s=(noV,40):=by
 unfold bY
 repeat' split
 all_goals first | exact .inr rfl | exact .inl rfl
theorem xN (s:Str) (h:(bY s).2=0):bY s=((bY s).1,0):=by rw [←h]
end Go.Pd
end
section
namespace Go.Pd
open Go.AL
def Gj (t:Str) (a:Int):Int:=t.foldl (fun n c=>10 *n+((c.toNat:Int) - 48)) a
theorem tF (c:UInt8) (t:Str) (a:Int):Gj (c ::t) a=Gj t (10 *a+((c.toNat:Int) - 48)):=rfl
theorem HY {r:List Int} {p:Nat} (hl:r.length=3) (hp:p<=2):r.set p (r.getD p 0)=r:=by
 match r,hl with
 | [a,b,c],_=>
  have e:p=0∨p=1∨p=2:=by omega
  rcases e with rfl | rfl | rfl <;> rfl
theorem vo {r:List Int} {p:Nat} {v:Int} (hl:r.length=3) (hp:p<=2):(r.set p v).getD p 0=v:=by
 match r,hl with
 | [a,b,c],_=>
  have e:p=0∨p=1∨p=2:=by omega
  rcases e with rfl | rfl | rfl <;> rfl
theorem HZ {r:List Int} {p:Nat} {v w:Int} (hl:r.length=3) (hp:p<=2):(r.set p v).set p w=r.set p w:=by
 match r,hl with
 | [a,b,c],_=>
  have e:p=0∨p=1∨p=2:=by omega
  rcases e with rfl | rfl | rfl <;> rfl
theorem vp (s:Str) (f i p:Nat) (r:List Int):rvL s (f+1) i p r=if i < s.length/\¬bI (s.getD i 0)=45 then
   if bI (s.getD i 0)=46 then (if 2 < p+1 then none else rvL s f (i+1) (p+1) r)
   else if bI (s.getD i 0) < 48∨57 < bI (s.getD i 0) then none
   else rvL s f (i+1) p (if r.getD p 0<=999999 then r.set p (10 *r.getD p 0+(bI (s.getD i 0) - 48)) else r)
  else some (r,i):=rfl
theorem fK {s:Str} {i:Nat} {c:UInt8} {x:Str} (h:s.drop i=c ::x):i < s.length/\s.getD i 0=c/\s.drop (i+1)=x:=by
 have hi:i < s.length:=by
  by_cases hi:i < s.length
  ·exact hi
  ·rw [List.drop_eq_nil_of_le (by omega)] at h;cases h
 rw [aT s i 0 hi] at h
 injection h with h1 h2
 exact ⟨hi,h1,h2⟩
theorem ku (s:Str):∀(t rest:Str) (f i p:Nat) (r:List Int),s.drop i=t++rest→(t.all fun c=>aM (bI c))=true→p<=2→r.length=3→0<=r.getD p 0→Gj t (r.getD p 0)<=999999→
  rvL s (t.length+f) i p r=rvL s f (i+t.length) p (r.set p (Gj t (r.getD p 0)))
 | [],rest,f,i,p,r,hd,ha,hp,hl,h0,h1=>by
  show rvL s (0+f) i p r=rvL s f (i+0) p (r.set p (r.getD p 0))
  rw [HY hl hp,Nat.zero_add]
  rfl
 | c ::t,rest,f,i,p,r,hd,ha,hp,hl,h0,h1=>by
  rw [List.all_cons,Bool.and_eq_true] at ha
  have hc:=rN ha.1
  obtain ⟨g1,g2,g3⟩:=fK hd
  have eb:bI (s.getD i 0)=(c.toNat:Int):=by rw [g2];rfl
  rw [tF] at h1
  have hm:=rO t ha.2 (10 *r.getD p 0+((c.toNat:Int) - 48)) (by omega)
  have hm:10 *r.getD p 0+((c.toNat:Int) - 48)<=Gj t (10 *r.getD p 0+((c.toNat:Int) - 48)):=hm
  have e:(c ::t).length+f=(t.length+f)+1:=by show t.length+1+f=_;omega
  rw [e,vp,eb,if_pos ⟨g1,by omega⟩,if_neg (by omega),if_neg (by omega),if_pos (by omega)]
  have ih:=ku s t rest f (i+1) p (r.set p (10 *r.getD p 0+((c.toNat:Int) - 48))) g3 ha.2 hp (by rw [List.length_set];exact hl) (by rw [vo hl hp];omega) (by rw [vo hl hp];exact h1)
  rw [ih,vo hl hp,HZ hl hp,tF]
  have e2:i+1+t.length=i+(c ::t).length:=by show _=i+(t.length+1);omega
  rw [e2]
theorem Bz {s:Str} {f i p:Nat} {r:List Int} {x:Str} (h:s.drop i=46 ::x) (hp:p<=1):rvL s (f+1) i p r=rvL s f (i+1) (p+1) r:=by
 obtain ⟨g1,g2,g3⟩:=fK h
 have eb:bI (s.getD i 0)=46:=by rw [g2];rfl
 rw [vp,eb,if_pos ⟨g1,by decide⟩,if_pos rfl,if_neg (by omega)]
theorem I2 {s:Str} {f i p:Nat} {r:List Int} (h:s.drop i=[]∨∃x,s.drop i=45 ::x):rvL s (f+1) i p r=some (r,i):=by
 rw [vp,if_neg]
 rintro ⟨h1,h2⟩
 rcases h with h | ⟨x,h⟩
 ·have:=congrArg List.length h
  rw [List.length_drop] at this
  have:s.length - i=0:=this
  omega
 ·obtain ⟨_,g2,_⟩:=fK h
  rw [g2] at h2
  exact h2 rfl
theorem jM {s a b:Str} {i:Nat} (h:s.drop i=a++b):s.drop (i+a.length)=b:=by
 rw [←List.drop_drop,h,List.drop_left]
theorem Du {s a b c y:Str} (hs:s=a++46 ::(b++46 ::(c++y))) (hy:y=[]∨∃x,y=45 ::x)
  (da:(a.all fun c=>aM (bI c))=true) (db:(b.all fun c=>aM (bI c))=true) (dc:(c.all fun c=>aM (bI c))=true)
  (va:bT a<=999999) (vb:bT b<=999999) (vc:bT c<=999999) :
  rvL s (s.length+1) 0 0 [0,0,0]=some ([bT a,bT b,bT c],a.length+1+b.length+1+c.length):=by
 have hl:s.length=a.length+(b.length+(c.length+y.length+1)+1):=by
  rw [hs]
  simp only [List.length_append,List.length_cons]
 have e:s.length+1=a.length+((b.length+((c.length+(y.length+1))+1))+1):=by omega
 have h0:s.drop 0=a++46 ::(b++46 ::(c++y)):=hs
 have h1:=jM h0
 have h2:=(fK h1).2.2
 have h3:=jM h2
 have h4:=(fK h3).2.2
 have h5:=jM h4
 have s1:rvL s (a.length+((b.length+((c.length+(y.length+1))+1))+1)) 0 0 [0,0,0]=rvL s ((b.length+((c.length+(y.length+1))+1))+1) (0+a.length) 0 [bT a,0,0]:=
  ku s a _ _ 0 0 [0,0,0] h0 da (by decide) rfl (Int.le_refl 0) va
 have s2:rvL s ((b.length+((c.length+(y.length+1))+1))+1) (0+a.length) 0 [bT a,0,0]=rvL s (b.length+((c.length+(y.length+1))+1)) (0+a.length+1) 1 [bT a,0,0]:=Bz h1 (by decide)
 have s3:rvL s (b.length+((c.length+(y.length+1))+1)) (0+a.length+1) 1 [bT a,0,0]=rvL s ((c.length+(y.length+1))+1) (0+a.length+1+b.length) 1 [bT a,bT b,0]:=
  ku s b _ _ _ 1 [bT a,0,0] h2 db (by decide) rfl (Int.le_refl 0) vb
 have s4:rvL s ((c.length+(y.length+1))+1) (0+a.length+1+b.length) 1 [bT a,bT b,0]=rvL s (c.length+(y.length+1)) (0+a.length+1+b.length+1) 2 [bT a,bT b,0]:=Bz h3 (by decide)
 have s5:rvL s (c.length+(y.length+1)) (0+a.length+1+b.length+1) 2 [bT a,bT b,0]=rvL s (y.length+1) (0+a.length+1+b.length+1+c.length) 2 [bT a,bT b,bT c]:=
  ku s c _ _ _ 2 [bT a,bT b,0] h4 dc (by decide) rfl (Int.le_refl 0) vc
 have s6:rvL s (y.length+1) (0+a.length+1+b.length+1+c.length) 2 [bT a,bT b,bT c]=some ([bT a,bT b,bT c],0+a.length+1+b.length+1+c.length):=by
  refine I2 ?_
  rcases hy with q | ⟨x,q⟩
  ·exact .inl (by rw [h5,q])
  ·exact .inr ⟨x,by rw [h5,q]⟩
 rw [e,s1,s2,s3,s4,s5,s6,Nat.zero_add]
theorem Al (s:Str):gL s=bY s:=by
 rcases Ak s with h | h
 ·obtain ⟨g1,g2⟩:=Aj h
  have hv:=xN s h
  generalize (bY s).1=v at g1 g2 hv
  rw [hv]
  obtain ⟨⟨a1,a2⟩,⟨b1,b2⟩,⟨c1,c2⟩,d1⟩:=lA g2
  obtain ⟨p1,p2,p3,p4⟩:=gE a1 a2
  obtain ⟨q1,q2,q3,q4⟩:=gE b1 b2
  obtain ⟨r1,r2,r3,r4⟩:=gE c1 c2
  have n6:∀{t:Str},eH t=true→t.length<=6:=fun {t} q=>by
   unfold eH at q
   simp only [Bool.and_eq_true,decide_eq_true_eq] at q
   exact q.1.2
  have l1:=n6 p4
  have l2:=n6 q4
  have l3:=n6 r4
  have e:s=bU v.major++46 ::(bU v.minor++46 ::(bU v.patch++(if v.pre=[] then [] else 45 ::v.pre))):=by
   conv=>lhs;rw [←g1]
   unfold hD
   simp only [List.append_assoc,List.cons_append,List.nil_append]
  have hy:(if v.pre=[] then [] else 45 ::v.pre)=[]∨∃x,(if v.pre=[] then [] else 45 ::v.pre)=45 ::x:=by
   split
   ·exact .inl rfl
   ·exact .inr ⟨_,rfl⟩
  have hR:=Du e hy p2 q2 r2 (by rw [p1];exact a2) (by rw [q1];exact b2) (by rw [r1];exact c2)
  have hyl:(if v.pre=[] then [] else 45 ::v.pre).length<=25:=by
   split
   ·exact Nat.zero_le _
   ·show v.pre.length+1<=25;omega
  have hl:s.length=(bU v.major).length+((bU v.minor).length+((bU v.patch).length+(if v.pre=[] then [] else 45 ::v.pre).length+1)+1):=by
   conv=>lhs;rw [e]
   simp only [List.length_append,List.length_cons]
  unfold gL
  rw [if_neg (by omega),hR,p1,q1,r1]
  have h5:s.drop ((bU v.major).length+1+(bU v.minor).length+1+(bU v.patch).length)=(if v.pre=[] then [] else 45 ::v.pre):=by
   have h0:s.drop 0=bU v.major++46 ::(bU v.minor++46 ::(bU v.patch++(if v.pre=[] then [] else 45 ::v.pre))):=e
   have:=jM (fK (jM (fK (jM h0)).2.2)).2.2
   rw [Nat.zero_add] at this
   exact this
  have hver:cM s [v.major,v.minor,v.patch] ((bU v.major).length+1+(bU v.minor).length+1+(bU v.patch).length)=v:=by
   unfold cM
   by_cases z:v.pre=[]
   ·rw [if_pos z] at hl
    have:¬(bU v.major).length+1+(bU v.minor).length+1+(bU v.patch).length < s.length:=by
     rw [hl];show ¬_ < _+(_+(_+0+1)+1);omega
    rw [if_neg this,←z]
    rfl
   ·rw [if_neg z] at h5
    obtain ⟨w1,_,w3⟩:=fK h5
    rw [if_pos w1,w3]
    rfl
  show (if ¬(cz (cM s _ _)).2=0∨¬(cz (cM s _ _)).1=s then (noV,40) else (cM s _ _,0))=_
  rw [hver]
  have hsh:cz v=(hD v,0):=by unfold cz;rw [if_pos g2]
  rw [hsh,if_neg]
  rintro (q | q)
  ·exact q rfl
  ·exact q g1
 ·rw [h]
  unfold gL
  split
  ·rfl
  ·match rvL s (s.length+1) 0 0 [0,0,0] with
   | none=>rfl
   | some (r,i)=>
    show (if ¬(cz (cM s r i)).2=0∨¬(cz (cM s r i)).1=s then (noV,40) else (cM s r i,0))=_
    by_cases q:¬(cz (cM s r i)).2=0∨¬(cz (cM s r i)).1=s
    ·rw [if_pos q]
    ·exfalso
     generalize cM s r i=v at q
     by_cases hc:bv v=0
     ·have hsh:cz v=(hD v,0):=by unfold cz;rw [if_pos hc]
      rw [hsh] at q
      have q2:hD v=s:=Classical.byContradiction fun z=>q (.inr z)
      have:=Ai hc
      rw [q2,h] at this
      injection this with _ t
      exact absurd t (by decide)
     ·have hsh:cz v=([],40):=by unfold cz;rw [if_neg hc]
      rw [hsh] at q
      exact q (.inl (by decide))
end Go.Pd
end
section
open Go Go.Proofs Go.RowKit Go.Pd
namespace Go.AL.Seat
def vS (s:Str):Value:=.string ⟨s.toArray⟩
def fZ (acc:List Str) (b:UInt8):List Str:=if b=46 then acc++[[]] else acc.set (acc.length - 1) (acc.getD (acc.length - 1) []++[b])
def dE (s:Str) (k:Nat):List Str:=(s.take k).foldl fZ [[]]
theorem jg (s:Str) (k:Nat) (h:k < s.length):dE s (k+1)=fZ (dE s k) (s[k]'h):=by
 unfold dE
 rw [List.take_succ_eq_append_getElem h,List.foldl_append];rfl
theorem Am (acc:List Str) (b:UInt8) (h:1<=acc.length):1<=(fZ acc b).length/\(fZ acc b).length<=acc.length+1:=by
 unfold fZ;split
 ·rw [List.length_append];simp
 ·rw [List.length_set];omega
theorem mN (s:Str):∀k,k<=s.length→1<=(dE s k).length/\(dE s k).length<=k+1
 | 0,_=>⟨Nat.le_refl _,Nat.le_refl _⟩
 | k+1,h=>by
  obtain ⟨h1,h2⟩:=mN s k (by omega)
  rw [jg s k (by omega)]
  have:=Am (dE s k) (s[k]'(by omega)) h1
  omega
theorem Ao {acc:List Str} {b:UInt8} {m:Nat} (h:∀x∈acc,x.length<=m):∀x∈fZ acc b,x.length<=m+1:=by
 intro x hx
 unfold fZ at hx
 split at hx
 ·rcases List.mem_append.1 hx with k | k
  ·have:=h x k;omega
  ·simp only [List.mem_singleton] at k;subst k;simp
 ·rcases List.mem_or_eq_of_mem_set hx with k | k
  ·have:=h x k;omega
  ·subst k
   rw [List.length_append]
   rcases Nat.lt_or_ge (acc.length - 1) acc.length with q | q
   ·have:=h (acc.getD (acc.length - 1) []) (by rw [List.getD_eq_getElem?_getD,List.getElem?_eq_getElem q];exact List.getElem_mem q)
    simp only [List.length_singleton];omega
   ·rw [List.getD_eq_getElem?_getD,List.getElem?_eq_none q];simp
theorem mO (s:Str):∀k,k<=s.length→∀x∈dE s k,x.length<=k
 | 0,_=>fun x hx=>by simp [dE] at hx;subst hx;simp
 | k+1,h=>by
  rw [jg s k (by omega)]
  exact Ao (mO s k (by omega))
theorem Tryz.info9':(Tryz.prog.info? 9).map (fun i=>(i.zero,i.size,i.bytes))=some (some (.string ByteArray.empty),1,16):=by kernel_rfl
set_option maxHeartbeats 1600000 in
set_option maxRecDepth 1000000 in
theorem Dv (s:Str) (w:World) (hs:s.length<=4096) :
  Calls Tryz.prog 251 #[vS s] w fun e w'=>∃v,e=.returned v/\w'.ownsRow w.heap.size 9 1 v (dE s s.length).length ((dE s s.length).map vS)/\Below w.heap.size w w':=by
 obtain ⟨i0,hi,hz0,hz1,hz2⟩:=info_parts Tryz.info9'
 unfold vS
 go_enter Tryz.func251,Tryz.ntmps251
 go_wp2
 go_loopw [3,4] (fun v i wr=>∃k:Nat,k<=s.length/\i=.int .i64 k/\wr.ownsRow w.heap.size 9 1 v (dE s k).length ((dE s k).map vS)/\Below w.heap.size w wr)
  (fun _ i _=>s.length - (RowKit.intOf i).toNat)
 case atStart=>
  exact ⟨0,Nat.zero_le _,rfl,⟨rfl,.inr ⟨w.heap.size,1,#[.string ⟨#[]⟩],rfl,Nat.le_refl _,heap_alloc_new w _,Nat.le_refl _,by decide,rfl,rfl⟩⟩,(Below.refl _ _).alloc (Nat.le_refl _) _⟩
 case round=>
  obtain ⟨k,hk,rfl,hown,hnx⟩:=hrel
  have hpl:=mN s k hk
  obtain ⟨n,hn⟩:∃n,(dE s k).length=n+1:=⟨_,(Nat.succ_pred (by omega)).symm⟩
  rw [hn] at hown
  have hsh:=hown.2
  rcases hsh with ⟨_,h0⟩ | ⟨g,cap,cur,rfl,hg1,_,hg2,hg3,_,_⟩
  ·omega
  have hfz:wr.frozen? ⟨g,n,none⟩=false:=hown.frozenAt n
  by_cases hlt:k < s.length
  ·have hlt':k < (⟨s.toArray⟩:ByteArray).size:=by show k < s.toArray.size;simpa using hlt
   by_cases hd:(s[k]'hlt).toNat=46
   ·have hnext:dE s (k+1)=dE s k++[[]]:=by
     rw [jg s k hlt];unfold fZ;rw [if_pos (UInt8.toNat_inj.1 hd)]
    have hd2:((((⟨s.toArray⟩:ByteArray)[k]'hlt').toNat:Int) ==46)=true:=by
     have e:((⟨s.toArray⟩:ByteArray)[k]'hlt').toNat=(s[k]'hlt).toNat:=by rfl
     rw [e,hd];rfl
    go_wp2_with (at_builtin;refine wpList_append_own _ rfl _ _ 25 rfl w.heap.size 9 i0 (.string ByteArray.empty) 1 16 Tryz.underlying25 hi hz0 hz1 hz2 rfl (by decide) _ _ _ rfl (hown.alloc _) ⟨wr.heap.size,0,none⟩ 1 1 [.string ByteArray.empty] rfl rfl ?c1 ?c2 ?c3 ?c4 ?c5 ?_)
    case c1=>
     intro j u hj
     match j,hj with
     | 0,hj=>simp at hj;subst hj;simp [Addr.add];rfl
    case c2=>intro u hu;simp at hu;subst hu;rfl
    case c3=>unfold maxLen;omega
    case c4=>omega
    case c5=>have:=hnx.size;simp;omega
    intro v' w1 hown' hgrow _
    have hown2:w1.ownsRow w.heap.size 9 1 v' (dE s (k+1)).length ((dE s (k+1)).map vS):=by
     rw [hnext,List.length_append,hn,List.map_append];exact hown'
    clear hown'
    go_wp2
    go_roundw
    case rel=>exact ⟨k+1,by omega,by go_num,hown2,(hnx.alloc (by have:=hnx.size;omega) _).grown hgrow (by have:=hnx.size;simp;omega) (by intro q hq;cases hq;exact hg1)⟩
    case measure=>simp [RowKit.intOf];omega
   ·have hd2:((((⟨s.toArray⟩:ByteArray)[k]'hlt').toNat:Int) ==46)=false:=by
     have e:((⟨s.toArray⟩:ByteArray)[k]'hlt').toNat=(s[k]'hlt).toNat:=by rfl
     rw [e];simp;omega
    have hn5:n<=5000:=by omega
    obtain ⟨L,hlast,hLl,hnext⟩:∃L:Str,wr.cell? ⟨g,n,none⟩=some (.string ⟨L.toArray⟩)/\L.length<=5000/\dE s (k+1)=(dE s k).set n (L++[s[k]'hlt]):=by
     refine ⟨(dE s k).getD n [],?_,?_,?_⟩
     ·rw [hown.cellAt n (by omega),List.getElem?_map,List.getElem?_eq_getElem (by omega),List.getD_eq_getElem?_getD,List.getElem?_eq_getElem (by omega)];rfl
     ·have:=mO s k hk ((dE s k).getD n []) (by rw [List.getD_eq_getElem?_getD,List.getElem?_eq_getElem (by omega)];exact List.getElem_mem _)
      omega
     ·rw [jg s k hlt];unfold fZ
      rw [if_neg (fun e=>hd (by rw [e];rfl)),hn];rfl
    have hrun:∀wx,(Instr.slice 9 (.string ⟨s.toArray⟩) (some (.int .i64 (k:Int))) (some (.int .i64 ((k:Int)+1))) none).run Tryz.prog wx=.ok (.string ⟨#[s[k]'hlt]⟩) wx:=fun wx=>by
     rw [run_slice_string wx 9 _ .i64 .i64 _ _ Tryz.underlying9 (by omega) (by omega) (by show (k:Int)+1<=(s.toArray.size:Int);simp;omega),ByteArray.extract_mk]
     have e1:((k:Int)+1).toNat - ((k:Int)).toNat=1:=by omega
     rw [e1,Int.toNat_natCast,List.drop_eq_getElem_cons hlt];rfl
    have hadd:∀wx,(Op.stringOp .add (⟨L.toArray⟩:ByteArray) (⟨#[s[k]'hlt]⟩:ByteArray)).run Tryz.prog wx=.ok (.string ⟨(L++[s[k]'hlt]).toArray⟩) wx:=fun wx=>
     run_string_add_lists wx L [s[k]'hlt] (by omega) (by simp)
    go_wp2_with fail
    all_goals (try (exfalso;rename_i hq _;rw [hd2] at hq;cases hq))
    go_region
    all_goals go_wp2
    all_goals go_roundw
    case rel=>
     refine ⟨k+1,by omega,by go_num,?_,(hnx.setCell hg1 _).drew⟩
     rw [hnext,List.length_set,hn,List.map_set]
     exact (hown.stored n _).1.drew
    case measure=>simp [RowKit.intOf];omega
  ·have hkl:k=s.length:=by omega
   subst hkl
   go_wp2_with fail
   go_ret
   exact ⟨_,rfl,by rw [hn];exact hown,hnx⟩
theorem lB:∀(s:Str) (acc:List Str) (p:Str),s.foldl fZ (acc++[p])=acc++(match splitB 46 s with | []=>[p] | q ::qs=>(p++q) ::qs)
 | [],acc,p=>by simp [splitB]
 | b ::r,acc,p=>by
  rw [List.foldl_cons]
  by_cases hb:b=46
  ·subst hb
   have e1:fZ (acc++[p]) 46=(acc++[p])++[[]]:=by unfold fZ;rw [if_pos rfl]
   rw [e1,lB r (acc++[p]) []]
   have hne:=lZ 46 r
   have e2:splitB 46 (46 ::r)=[] ::splitB 46 r:=by rw [splitB,if_pos rfl]
   rw [e2]
   cases e:splitB 46 r with
   | nil=>exact absurd e hne
   | cons q qs=>simp
  ·have e1:fZ (acc++[p]) b=acc++[p++[b]]:=by
    unfold fZ
    rw [if_neg hb]
    simp
   rw [e1,lB r acc (p++[b])]
   have hne:=lZ 46 r
   have e2:splitB 46 (b ::r)=match splitB 46 r with | []=>[[b]] | p ::ps=>(b ::p) ::ps:=by rw [splitB,if_neg hb];rfl
   rw [e2]
   cases e:splitB 46 r with
   | nil=>exact absurd e hne
   | cons q qs=>simp
theorem xO (s:Str):dE s s.length=splitB 46 s:=by
 unfold dE
 rw [List.take_length]
 have:=lB s [] []
 simp only [List.nil_append] at this
 rw [this]
 cases e:splitB 46 s with
 | nil=>exact absurd e (lZ 46 s)
 | cons q qs=>rfl
variable [Tabs]
theorem Ap:ac Tryz.prog 251 (p1 .str fun s=>⟨some (s.length<=4096),none,.lst .str (splitB 46 s) none,[]⟩):=by
 refine b6 (ar.mk' Tryz.func251 (by kernel_rfl)) fun s _ ho=>?_
 have hlen:s.length<=4096:=ho _ rfl
 intro w pub e vs hp ht hv hs hd hi
 obtain ⟨v,rfl,h1⟩:=VL.one_inv hv
 obtain ⟨rfl,hl⟩:=h1.str_inv
 refine (Dv s w hlen).mono ?_
 rintro en w' ⟨v,rfl,hown,hb⟩
 have hpl:=mN s s.length (Nat.le_refl _)
 have hmem:=mO s s.length (Nat.le_refl _)
 rw [xO] at hown hpl hmem
 generalize splitB 46 s=xs at *
 rcases hown.2 with ⟨_,h0⟩ | ⟨g,cap,cur,rfl,hg1,hg,hg2,hg3,hg4,hg5⟩
 ·omega
 have hw1:ab .str=1:=rfl
 refine ⟨fun b o=>pub b o∨(w.heap.size<=b/\∃v,w'.cell? ⟨b,o,none⟩=some v),e,?_⟩
 refine And.intro (fun b pv u h=>by cases h) (And.intro ?_ ?_)
 ·refine oR (vs:=xs.map vS) hg (by rw [hw1];exact hg5) ⟨?_,fun j c u hc hu=>?_⟩ hg2 hg3 (fun i hi=>.inr ⟨hg1,?_⟩) (fun id hid=>by cases hid)
  ·rw [bX,hw1];simp
  ·have e1:bj .str xs=xs.map AV.str:=by
    unfold bj
    rw [List.map_eq_flatMap]
    rfl
   rw [e1,List.getElem?_map,Option.map_eq_some_iff] at hc
   rw [List.getElem?_map,Option.map_eq_some_iff] at hu
   obtain ⟨x,hx,rfl⟩:=hc
   obtain ⟨y,hy,rfl⟩:=hu
   rw [hx] at hy
   cases hy
   exact .str x (by have:=hmem x (List.mem_of_getElem? hx);unfold ct;omega)
  ·have:=hown.cellAt i hi
   rw [this]
   exact ⟨_,List.getElem?_eq_getElem (by rw [hown.1];exact hi)⟩
 ·exact {
   os:=hb.os
   tape:=hb.tape
   output:=hb.output
   size:=hb.size
   block:=fun b h _=>hb.block b h
   cell:=fun b o h _=>az (hb.block b h) o
   kind:=fun b h _=>⟨bH (hb.block b h),fun o=>bg (hb.block b h) o⟩
   ext:=⟨fun _ c h=>⟨c,h,CLe.refl c⟩,fun _ _ h=>.inl h,fun b o h=>by obtain ⟨v,hv⟩:=hp b o h;exact az (hb.block b (bh hv)) o⟩
   fresh:=fun b o h=>h.elim .inl (fun k=>.inr (.inl k.1))
   ok:=fun b o h=>by
    rcases h with h | h
    ·obtain ⟨v,hv⟩:=hp b o h;exact ⟨v,(az (hb.block b (bh hv)) o).trans hv⟩
    ·exact h.2
   slots:=fun id o h=>by simp [putB,ax] at h
   dom:=fun id _=>hd id rfl
   inj:=fun i j c d b o h=>by rw [hd i rfl] at h;cases h}
end Go.AL.Seat
end
section
namespace Go.Pd
open Go.AL
abbrev okF:Flt:=⟨0,0⟩
def jh (l:List Tokn) (a:Int):Flt:=⟨90,(bB l a).pos⟩
def aE (l:List Tokn) (a:Int) (t:Str):Int × Flt:=if cb l a t=true then (a+1,okF) else (a,jh l a)
def bQ (l:List Tokn) (a k:Int):Str × Int × Flt:=if (bB l a).kind=k then ((bB l a).text,a+1,okF) else ([],a,jh l a)
def aG (l:List Tokn) (a:Int) (ns:List Str):Str × Int × Flt:=
 ((bQ l a 1).1,(bQ l a 1).2.1,if (bQ l a 1).2.2.err=0/\(bQ l a 1).1∈ns then ⟨111,(bB l a).pos⟩ else (bQ l a 1).2.2)
def cN {σ:Type} (l:List Tokn) (r:σ→Int→σ × Int × Flt) (btw en:Str):Nat→σ→Int→σ × Int × Flt
 | 0,x,a=>(x,a - 1,okF)
 | n+1,x,a=>
  if (r x a).2.2.err=0 then
   if cb l (r x a).2.1 en=true then ((r x a).1,(r x a).2.1,okF)
   else if (aE l (r x a).2.1 btw).2.err=0 then cN l r btw en n (r x a).1 (aE l (r x a).2.1 btw).1
   else ((r x a).1,(aE l (r x a).2.1 btw).1,(aE l (r x a).2.1 btw).2)
  else r x a
def cy {σ:Type} (l:List Tokn) (r:σ→Int→σ × Int × Flt) (btw en:Str) (x:σ) (a:Int):σ × Int × Flt:=
 if cb l a en=true then (x,a,okF) else cN l r btw en (l.length+2) x a
def hU {σ:Type} (b:σ × Int × Flt):σ × Int × Flt:=if b.2.2.err=0 then (b.1,b.2.1+1,okF) else b
def g8 {σ:Type} (l:List Tokn) (t:Str) (b:σ × Int × Flt):σ × Int × Flt:=if b.2.2.err=0 then (b.1,aE l b.2.1 t) else b
abbrev SR3:=Shape × Int × Flt
def bW (l:List Tokn) (R:Int→SR3) (x:Shape) (a:Int):SR3:=
 let b:=g8 l [58] (aG l a x.names)
 if b.2.2.err=0 then
  let d:=R b.2.1
  if d.2.2.err=0 then (⟨x.kind,x.pkg,x.name,x.names++[b.1],x.parts++[d.1]⟩,d.2.1,okF) else (x,d.2.1,d.2.2)
 else (x,b.2.1,b.2.2)
def xP (x:Shape) (p:Shape):Shape:=⟨x.kind,x.pkg,x.name,x.names,x.parts++[p]⟩
def ca (R:Int→SR3) (x:Shape) (a:Int):SR3:=if (R a).2.2.err=0 then (xP x (R a).1,(R a).2.1,okF) else (x,(R a).2.1,(R a).2.2)
def dR (l:List Tokn) (R:Int→SR3) (a k:Int) (btw en:Str):SR3:=hU (cy l (bW l R) btw en ⟨k,[],[],[],[]⟩ a)
def cr (l:List Tokn) (R:Int→SR3) (a:Int):SR3:=
 let c:=g8 l [45,62] (hU (cy l (ca R) [44] [41] ⟨8,[],[],[],[]⟩ a))
 if c.2.2.err=0 then
  let d:=R c.2.1
  (xP c.1 d.1,d.2.1,d.2.2)
 else c
def kw (l:List Tokn) (R:Int→SR3) (a:Int):SR3:=
 let t:=bB l a
 if t.kind=2 then (co [] t.text,a+1,okF)
 else if t.kind=1 then
  let b:=aE l (a+1) [47]
  if b.2.err=0 then
   let c:=bQ l b.1 2
   (co t.text c.1,c.2.1,c.2.2)
  else (⟨0,[],[],[],[]⟩,b.1,b.2)
 else if cb l a [91]=true then
  let b:=g8 l [93] (R (a+1))
  (⟨5,[],[],[],[b.1]⟩,b.2.1,b.2.2)
 else if cb l a [123]=true then dR l R (a+1) 6 [44] [125]
 else if cb l a [60]=true then dR l R (a+1) 7 [124] [62]
 else if cb l a [40]=true then cr l R (a+1)
 else (⟨0,[],[],[],[]⟩,a,jh l a)
def ai (l:List Tokn):Nat→Int→SR3
 | 0,a=>(⟨0,[],[],[],[]⟩,a,okF)
 | n+1,a=>kw l (ai l n) a
def dX (l:List Tokn) (a:Int):SR3:=
 let b:=ai l big a
 (b.1,b.2.1,if b.2.2.err=0/\¬bK b.1=0 then ⟨bK b.1,(bB l a).pos⟩ else b.2.2)
abbrev TR3:=Trm × Int × Flt
end Go.Pd
end
