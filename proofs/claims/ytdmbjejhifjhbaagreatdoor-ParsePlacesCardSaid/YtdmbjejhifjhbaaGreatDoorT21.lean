/- Plain facts. What the functions' conditions say, proved. No condition. -/
import Derived.Test.YtdmbjejhifjhbaaGreatDoorT20
import Derived.KernelRfl
import Derived.Laws.OwnMore
import Derived.Sort.Walk0
import Derived.Test.YtdmbjejhifjhbaaGreatDoorProg
import Derived.WalkKit
set_option linter.unusedVariables false
set_option linter.unusedSimpArgs false
set_option linter.unnecessarySimpa false
set_option linter.deprecated false
set_option linter.unusedSectionVars false
set_option maxRecDepth 100000
section
namespace Go.Pd
open Go.AL
def bU:Str→Nat
 | []=>0
 | b ::r=>if bp (bI b)=true then bU r+1 else 0
theorem sC:∀s:Str,(bU s=s.length↔(s.all fun c=>bp (bI c))=true)
 | []=>by simp [bU]
 | b ::r=>by
  simp only [bU,List.length_cons,List.all_cons,Bool.and_eq_true]
  by_cases h:bp (bI b)=true
  ·rw [if_pos h,←sC r]
   constructor
   ·intro e;exact ⟨h,by omega⟩
   ·rintro ⟨_,e⟩;omega
  ·rw [if_neg h]
   constructor
   ·intro e;omega
   ·rintro ⟨e,_⟩;exact absurd e h
theorem rc:∀s:Str,bU s<=s.length
 | []=>Nat.le_refl _
 | b ::r=>by
  have:=rc r
  simp only [bU,List.length_cons]
  split <;> omega
theorem oP (first:Int→Bool) (s:Str):di first s=(!decide (s=[]) && decide (s.length<=24) && first (bI (s.getD 0 0)) && decide (bU s=s.length)):=by
 unfold di
 congr 1
 rw [Bool.eq_iff_iff,decide_eq_true_eq]
 exact (sC s).symm
end Go.Pd
end
section
namespace Go.Pd
open Go.AL
def eP (p:Int):Bool:=decide (0<=p) && decide (p<=1114111) && (decide (p < 55296) || decide (57343 < p))
def jv (n:Int):UInt8:=UInt8.ofNat n.toNat
def dm (p:Int):Str:=
 if p < 128 then [jv p]
 else if p < 2048 then [jv (192+p / 64),jv (128+p % 64)]
 else if p < 65536 then [jv (224+p / 4096),jv (128+p / 64 % 64),jv (128+p % 64)]
 else [jv (240+p / 262144),jv (128+p / 4096 % 64),jv (128+p / 64 % 64),jv (128+p % 64)]
def cr (s:Str):Nat:=if 240<=bI (s.getD 0 0) then 4 else if 224<=bI (s.getD 0 0) then 3 else if 192<=bI (s.getD 0 0) then 2 else 1
def fR (s:Str):Int:=if 240<=bI (s.getD 0 0) then bI (s.getD 0 0) - 240 else if 224<=bI (s.getD 0 0) then bI (s.getD 0 0) - 224 else if 192<=bI (s.getD 0 0) then bI (s.getD 0 0) - 192 else bI (s.getD 0 0)
def aO (s:Str):Nat→Int
 | 0=>fR s
 | 1=>fR s
 | k+2=>aO s (k+1) *64+bI (s.getD (k+1) 0) - 128
def iI (s:Str):Int × Int:=
 if s=[] then (0,0) else if s.length < cr s then (0,0)
 else if eP (aO s (cr s))=true/\dm (aO s (cr s))=s.take (cr s) then (aO s (cr s),cr s) else (0,0)
abbrev TK3:=Tokn × Int × Flt
def iZ:Tokn:=⟨0,[],0⟩
def lG:TK3:=(iZ,0,⟨60,0⟩)
def okK (k:Int) (t:Str) (n:Int):TK3:=(⟨k,t,0⟩,n,⟨0,0⟩)
def lV (s:Str):Bool:=s.all dL && decide (1<=s.length) && decide (s.length<=15) && (decide (s.length=1) || !decide (bI (s.getD 0 0)=48))
def b8 (s:Str):Nat→Str→Nat→TK3
 | 0,_,_=>lG
 | n+1,acc,i=>
  if i < s.length then
   if bI (s.getD i 0)=34 then okK 4 acc (i+1)
   else if bI (s.getD i 0) < 32 then lG
   else if bI (s.getD i 0)=92 then
    if i+1=s.length then lG
    else match gQ (bI (s.getD (i+1) 0)) with
     | none=>lG
     | some x=>b8 s n (acc++[UInt8.ofNat x.toNat]) (i+2)
   else if ce (s.drop i)=0 then (iZ,0,⟨30,i⟩)
   else b8 s n (acc++(s.drop i).take (ce (s.drop i))) (i+ce (s.drop i))
  else lG
def cw (s:Str):TK3:=b8 s (s.length+2) [] 1
def lx (s:Str):TK3:=
 if iQ (s.take (bU s))=true then okK 5 (s.take (bU s)) (bU s)
 else if aQ (s.take (bU s))=true then okK 1 (s.take (bU s)) (bU s)
 else if dq (s.take (bU s))=true then okK 2 (s.take (bU s)) (bU s)
 else lG
def ly (t:Str) (n:Int):TK3:=
 if lV t=true then okK 3 t n else if (bQ t).2=0 then okK 7 t n else lG
def nl (s:Str):TK3:=
 if 2<=s.length/\fG (s.take 2)=true then okK 6 (s.take 2) 2 else if fG (s.take 1)=true then okK 6 (s.take 1) 1 else lG
def bM (s:Str):TK3:=
 if bq (bI (s.getD 0 0))=true∨bw (bI (s.getD 0 0))=true then lx s
 else if aK (bI (s.getD 0 0))=true then ly (s.take (ae aD s 0)) (ae aD s 0)
 else if bI (s.getD 0 0)=34 then cw s
 else nl s
def jw (s:Str):Nat→Nat→Int × Flt
 | 0,n=>(n,⟨0,0⟩)
 | f+1,n=>if n < s.length/\bI (s.getD n 0)≠10 then (if ce (s.drop n)=0 then (0,⟨30,n⟩) else jw s f (n+ce (s.drop n))) else (n,⟨0,0⟩)
def bL (s:Str):Int × Flt:=
 if s.length<=ae aE s 0+1∨bI (s.getD (ae aE s 0) 0)≠45∨bI (s.getD (ae aE s 0+1) 0)≠45 then ((ae aE s 0:Int),⟨0,0⟩) else jw s (s.length+1) (ae aE s 0)
def G1 (t:Tokn) (a:Int):Tokn:=⟨t.kind,t.text,a⟩
def eQ (s:Str):Nat→Nat→List Tokn→List Tokn × Flt
 | 0,_,_=>([],⟨0,0⟩)
 | f+1,a,out=>
  if a < s.length then
   if ¬(bL (s.drop a)).2.err=0 then ([],⟨(bL (s.drop a)).2.err,a+(bL (s.drop a)).2.pos⟩)
   else if 0 < (bL (s.drop a)).1 then eQ s f (a+(bL (s.drop a)).1.toNat) out
   else if ¬(bM (s.drop a)).2.2.err=0 then ([],⟨(bM (s.drop a)).2.2.err,a+(bM (s.drop a)).2.2.pos⟩)
   else eQ s f (a+(bM (s.drop a)).2.1.toNat) (out++[G1 (bM (s.drop a)).1 a])
  else (out++[⟨0,[],(s.length:Int)⟩],⟨0,0⟩)
def eR (s:Str):List Tokn × Flt:=if 4096 < s.length then ([],⟨3,4096⟩) else eQ s (s.length+2) 0 []
end Go.Pd
end
section
namespace Go.Pd
open Go.AL
theorem yW (s:Str):decide (s∈([[40],[41],[123],[125],[91],[93],[60],[62],[60,61],[62,61],[61],[94],[42],[44],[58],[46],[47],[64],[124],[45,62]]:List Str))=fG s:=by
 unfold fG Dr
 match s with
 | []=>decide
 | [a]=>simp [eq_comm]
 | [a,b]=>
  simp only [List.mem_cons,List.cons.injEq,List.not_mem_nil,or_false,false_or,reduceCtorEq,and_false,List.length_cons,List.length_nil,Bool.decide_or]
  simp only [decide_false,Bool.false_or,Bool.or_false,and_true]
  simp [Bool.or_assoc]
 | a ::b ::c ::r=>simp
theorem C8 (s:Str):s∈([[40],[41],[123],[125],[91],[93],[60],[62],[60,61],[62,61],[61],[94],[42],[44],[58],[46],[47],[64],[124],[45,62]]:List Str)↔fG s=true:=by
 rw [←yW]
 exact decide_eq_true_iff.symm
theorem eY {n:Int} {b:UInt8} (h0:0<=n) (h1:n<=255):jv n=b↔n=bI b:=by
 unfold jv bI
 constructor
 ·intro e
  rw [←e,UInt8.toNat_ofNat']
  have:n.toNat % 2 ^ 8=n.toNat:=Nat.mod_eq_of_lt (by omega)
  rw [this]
  omega
 ·intro e
  rw [e,Int.toNat_natCast]
  exact UInt8.ofNat_toNat
theorem ED {p:Int} (h:0<=p) (a:UInt8):dm p=[a]↔p < 128/\p=bI a:=by
 unfold dm
 split
 ·simp only [List.cons.injEq,and_true]
  rw [eY h (by omega)]
  omega
 ·refine ⟨fun e=>?_,fun e=>by omega⟩
  revert e
  split <;> (try split) <;> simp
theorem EE {p:Int} (h:0<=p) (a b:UInt8):dm p=[a,b]↔128<=p/\p < 2048/\192+p / 64=bI a/\128+p % 64=bI b:=by
 unfold dm
 split
 ·refine ⟨fun e=>?_,fun e=>by omega⟩
  simp at e
 split
 ·simp only [List.cons.injEq,and_true]
  rw [eY (by omega) (by omega),eY (by omega) (by omega)]
  omega
 ·refine ⟨fun e=>?_,fun e=>by omega⟩
  revert e
  split <;> simp
theorem EF {p:Int} (h:0<=p) (a b c:UInt8):dm p=[a,b,c]↔2048<=p/\p < 65536/\224+p / 4096=bI a/\128+p / 64 % 64=bI b/\128+p % 64=bI c:=by
 unfold dm
 split
 ·refine ⟨fun e=>?_,fun e=>by omega⟩
  simp at e
 split
 ·refine ⟨fun e=>?_,fun e=>by omega⟩
  simp at e
 split
 ·simp only [List.cons.injEq,and_true]
  rw [eY (by omega) (by omega),eY (by omega) (by omega),eY (by omega) (by omega)]
  omega
 ·refine ⟨fun e=>?_,fun e=>by omega⟩
  simp at e
theorem EG {p:Int} (h:0<=p) (hp:p<=1114111) (a b c d:UInt8):dm p=[a,b,c,d]↔65536<=p/\240+p / 262144=bI a/\128+p / 4096 % 64=bI b/\128+p / 64 % 64=bI c/\128+p % 64=bI d:=by
 unfold dm
 split
 ·refine ⟨fun e=>?_,fun e=>by omega⟩
  simp at e
 split
 ·refine ⟨fun e=>?_,fun e=>by omega⟩
  simp at e
 split
 ·refine ⟨fun e=>?_,fun e=>by omega⟩
  simp at e
 ·simp only [List.cons.injEq,and_true]
  rw [eY (by omega) (by omega),eY (by omega) (by omega),eY (by omega) (by omega),eY (by omega) (by omega)]
  omega
theorem jU (p:Int):eP p=true↔0<=p/\p<=1114111/\(p < 55296∨57343 < p):=by
 unfold eP
 simp only [Bool.and_eq_true,Bool.or_eq_true,decide_eq_true_eq,and_assoc]
theorem oQ (s:Str):(iI s).2=(ce s:Int):=by
 match s with
 | []=>rfl
 | b ::r=>
  rw [Dw]
  have hb:=UInt8.toNat_lt b
  have e0:bI ((b ::r).getD 0 0)=(b.toNat:Int):=rfl
  unfold iI
  rw [if_neg (List.cons_ne_nil _ _)]
  by_cases c4:240<=(b.toNat:Int)
  ·have hL:cr (b ::r)=4:=by unfold cr;rw [e0,if_pos c4]
   rw [hL]
   match r with
   | []=>rw [if_pos (by simp)];unfold kO;simp only [List.length_nil];(repeat' split) <;> first | rfl | omega
   | [c1]=>rw [if_pos (by simp)];unfold kO;simp only [List.length_cons,List.length_nil];(repeat' split) <;> first | rfl | omega
   | [c1,c2]=>rw [if_pos (by simp)];unfold kO;simp only [List.length_cons,List.length_nil];(repeat' split) <;> first | rfl | omega
   | c1 ::c2 ::c3 ::r=>
    have h1:=UInt8.toNat_lt c1
    have h2:=UInt8.toNat_lt c2
    have h3:=UInt8.toNat_lt c3
    have hf:aO (b ::c1 ::c2 ::c3 ::r) 4=((((b.toNat:Int) - 240) *64+c1.toNat - 128) *64+c2.toNat - 128) *64+c3.toNat - 128:=by
     have:fR (b ::c1 ::c2 ::c3 ::r)=(b.toNat:Int) - 240:=by unfold fR;rw [show bI ((b ::c1 ::c2 ::c3 ::r).getD 0 0)=(b.toNat:Int) from rfl,if_pos c4]
     unfold aO aO aO aO
     rw [this]
     rfl
    rw [if_neg (by simp),hf]
    have ht:(b ::c1 ::c2 ::c3 ::r).take 4=[b,c1,c2,c3]:=rfl
    rw [ht]
    generalize hp:((((b.toNat:Int) - 240) *64+c1.toNat - 128) *64+c2.toNat - 128) *64+c3.toNat - 128=p
    have key:(eP p=true/\dm p=[b,c1,c2,c3])↔(0<=p/\p<=1114111/\(p < 55296∨57343 < p))/\(65536<=p/\240+p / 262144=(b.toNat:Int)/\128+p / 4096 % 64=(c1.toNat:Int)/\128+p / 64 % 64=(c2.toNat:Int)/\128+p % 64=(c3.toNat:Int)):=by
     rw [jU]
     exact and_congr_right fun e=>EG e.1 e.2.1 _ _ _ _
    unfold kO
    simp only [List.length_cons,List.getD_cons_zero,List.getD_cons_succ]
    rw [show p / 4096=p / 64 / 64 by omega,show p / 262144=p / 64 / 64 / 64 by omega] at key
    generalize hu:p / 64=u at key
    generalize hv:u / 64=v at key
    generalize hw:v / 64=w at key
    split
    ·next h=>
     have h:=key.1 h
     have x0:b.toNat / 8=30/\c1.toNat / 64=2/\c2.toNat / 64=2/\c3.toNat / 64=2:=by omega
     have x1:b.toNat % 8 *262144+c1.toNat % 64 *4096+c2.toNat % 64 *64+c3.toNat % 64=p.toNat:=by omega
     rw [x1,if_neg (by omega),if_neg (by omega),if_neg (by omega),if_pos ⟨x0.1,⟨by omega,x0.2.1⟩,⟨by omega,x0.2.2.1⟩,by omega,x0.2.2.2⟩,if_pos (by omega)]
    ·next h=>
     by_cases x0:b.toNat / 8=30/\c1.toNat / 64=2/\c2.toNat / 64=2/\c3.toNat / 64=2
     ·have x1:((b.toNat % 8 *262144+c1.toNat % 64 *4096+c2.toNat % 64 *64+c3.toNat % 64:Nat):Int)=p:=by omega
      have x2:¬((b.toNat % 8 *262144+c1.toNat % 64 *4096+c2.toNat % 64 *64+c3.toNat % 64)≥65536/\((b.toNat % 8 *262144+c1.toNat % 64 *4096+c2.toNat % 64 *64+c3.toNat % 64) < 55296∨57344<=(b.toNat % 8 *262144+c1.toNat % 64 *4096+c2.toNat % 64 *64+c3.toNat % 64)/\(b.toNat % 8 *262144+c1.toNat % 64 *4096+c2.toNat % 64 *64+c3.toNat % 64)<=1114111)):=fun e=>h (key.2 ⟨by omega,by omega⟩)
      rw [if_neg (by omega),if_neg (by omega),if_neg (by omega),if_pos ⟨x0.1,⟨by omega,x0.2.1⟩,⟨by omega,x0.2.2.1⟩,by omega,x0.2.2.2⟩,if_neg x2]
      rfl
     ·rw [if_neg (by omega),if_neg (by omega),if_neg (by omega),if_neg (fun e=>x0 ⟨e.1,e.2.1.2,e.2.2.1.2,e.2.2.2.2⟩)]
      rfl
  by_cases c3:224<=(b.toNat:Int)
  ·have hL:cr (b ::r)=3:=by unfold cr;rw [e0,if_neg c4,if_pos c3]
   rw [hL]
   match r with
   | []=>rw [if_pos (by simp)];unfold kO;simp only [List.length_nil];(repeat' split) <;> first | rfl | omega
   | [c1]=>rw [if_pos (by simp)];unfold kO;simp only [List.length_cons,List.length_nil];(repeat' split) <;> first | rfl | omega
   | c1 ::c2 ::r=>
    have h1:=UInt8.toNat_lt c1
    have h2:=UInt8.toNat_lt c2
    have hf:aO (b ::c1 ::c2 ::r) 3=(((b.toNat:Int) - 224) *64+c1.toNat - 128) *64+c2.toNat - 128:=by
     have:fR (b ::c1 ::c2 ::r)=(b.toNat:Int) - 224:=by unfold fR;rw [show bI ((b ::c1 ::c2 ::r).getD 0 0)=(b.toNat:Int) from rfl,if_neg c4,if_pos c3]
     unfold aO aO aO
     rw [this]
     rfl
    rw [if_neg (by simp),hf]
    have ht:(b ::c1 ::c2 ::r).take 3=[b,c1,c2]:=rfl
    rw [ht]
    generalize hp:(((b.toNat:Int) - 224) *64+c1.toNat - 128) *64+c2.toNat - 128=p
    have key:(eP p=true/\dm p=[b,c1,c2])↔(0<=p/\p<=1114111/\(p < 55296∨57343 < p))/\(2048<=p/\p < 65536/\224+p / 4096=(b.toNat:Int)/\128+p / 64 % 64=(c1.toNat:Int)/\128+p % 64=(c2.toNat:Int)):=by
     rw [jU]
     exact and_congr_right fun e=>EF e.1 _ _ _
    unfold kO
    simp only [List.length_cons,List.getD_cons_zero,List.getD_cons_succ]
    rw [show p / 4096=p / 64 / 64 by omega] at key
    generalize hu:p / 64=u at key
    generalize hv:u / 64=v at key
    split
    ·next h=>
     have h:=key.1 h
     have x0:b.toNat / 16=14/\c1.toNat / 64=2/\c2.toNat / 64=2:=by omega
     have x1:b.toNat % 16 *4096+c1.toNat % 64 *64+c2.toNat % 64=p.toNat:=by omega
     rw [x1,if_neg (by omega),if_neg (by omega),if_pos ⟨x0.1,⟨by omega,x0.2.1⟩,by omega,x0.2.2⟩,if_pos (by omega)]
    ·next h=>
     by_cases x0:b.toNat / 16=14/\c1.toNat / 64=2/\c2.toNat / 64=2
     ·have x1:((b.toNat % 16 *4096+c1.toNat % 64 *64+c2.toNat % 64:Nat):Int)=p:=by omega
      have x2:¬((b.toNat % 16 *4096+c1.toNat % 64 *64+c2.toNat % 64)≥2048/\((b.toNat % 16 *4096+c1.toNat % 64 *64+c2.toNat % 64) < 55296∨57344<=(b.toNat % 16 *4096+c1.toNat % 64 *64+c2.toNat % 64)/\(b.toNat % 16 *4096+c1.toNat % 64 *64+c2.toNat % 64)<=1114111)):=fun e=>h (key.2 ⟨by omega,by omega⟩)
      rw [if_neg (by omega),if_neg (by omega),if_pos ⟨x0.1,⟨by omega,x0.2.1⟩,by omega,x0.2.2⟩,if_neg x2]
      rfl
     ·rw [if_neg (by omega),if_neg (by omega),if_neg (fun e=>x0 ⟨e.1,e.2.1.2,e.2.2.2⟩),if_neg (by omega)]
      rfl
  by_cases c2:192<=(b.toNat:Int)
  ·have hL:cr (b ::r)=2:=by unfold cr;rw [e0,if_neg c4,if_neg c3,if_pos c2]
   rw [hL]
   match r with
   | []=>rw [if_pos (by simp)];unfold kO;simp only [List.length_nil];(repeat' split) <;> first | rfl | omega
   | c1 ::r=>
    have h1:=UInt8.toNat_lt c1
    have hf:aO (b ::c1 ::r) 2=((b.toNat:Int) - 192) *64+c1.toNat - 128:=by
     have:fR (b ::c1 ::r)=(b.toNat:Int) - 192:=by unfold fR;rw [show bI ((b ::c1 ::r).getD 0 0)=(b.toNat:Int) from rfl,if_neg c4,if_neg c3,if_pos c2]
     unfold aO aO
     rw [this]
     rfl
    rw [if_neg (by simp),hf]
    have ht:(b ::c1 ::r).take 2=[b,c1]:=rfl
    rw [ht]
    generalize hp:((b.toNat:Int) - 192) *64+c1.toNat - 128=p
    have key:(eP p=true/\dm p=[b,c1])↔(0<=p/\p<=1114111/\(p < 55296∨57343 < p))/\(128<=p/\p < 2048/\192+p / 64=(b.toNat:Int)/\128+p % 64=(c1.toNat:Int)):=by
     rw [jU]
     exact and_congr_right fun e=>EE e.1 _ _
    unfold kO
    simp only [List.length_cons,List.getD_cons_zero,List.getD_cons_succ]
    generalize hu:p / 64=u at key
    split
    ·next h=>
     have h:=key.1 h
     have x0:b.toNat / 32=6/\c1.toNat / 64=2:=by omega
     have x1:b.toNat % 32 *64+c1.toNat % 64=p.toNat:=by omega
     rw [x1,if_neg (by omega),if_pos ⟨x0.1,by omega,x0.2⟩,if_pos (by omega)]
    ·next h=>
     by_cases x0:b.toNat / 32=6/\c1.toNat / 64=2
     ·have x1:((b.toNat % 32 *64+c1.toNat % 64:Nat):Int)=p:=by omega
      generalize b.toNat % 32 *64+c1.toNat % 64=q at x1 ⊢
      have x2:¬(q≥128):=fun e=>h (key.2 ⟨by omega,by omega⟩)
      rw [if_neg (by omega),if_pos ⟨x0.1,by omega,x0.2⟩,if_neg x2]
      rfl
     ·rw [if_neg (by omega),if_neg (fun e=>x0 ⟨e.1,e.2.2⟩),if_neg (by omega),if_neg (by omega)]
      rfl
  ·have hL:cr (b ::r)=1:=by unfold cr;rw [e0,if_neg c4,if_neg c3,if_neg c2]
   rw [hL,if_neg (by simp)]
   have hf:aO (b ::r) 1=(b.toNat:Int):=by
    unfold aO fR
    rw [e0,if_neg c4,if_neg c3,if_neg c2]
   rw [hf]
   have ht:(b ::r).take 1=[b]:=rfl
   rw [ht]
   have key:(eP (b.toNat:Int)=true/\dm (b.toNat:Int)=[b])↔(b.toNat:Int) < 128:=by
    rw [jU,ED (by omega)]
    constructor
    ·exact fun e=>e.2.1
    ·exact fun e=>⟨by omega,e,rfl⟩
   by_cases h:b.toNat < 128
   ·rw [if_pos (key.2 (by omega))];unfold kO;rw [if_pos h]
   ·rw [if_neg (fun e=>h (by have:=key.1 e;omega))];unfold kO;rw [if_neg h,if_neg (by omega),if_neg (by omega),if_neg (by omega)];rfl
theorem Ah (s:Str):ce s<=s.length:=by
 by_cases h:s=[]
 ·subst h;exact Nat.le_refl _
 by_cases e:ce s=0
 ·omega
 obtain ⟨_,h2,_,_,h5⟩:=jp h
 have:=h2 e
 omega
theorem jV {s:Str} {n:Nat} (h:n<=s.length):n+ce (s.drop n)<=s.length:=by
 have:=Ah (s.drop n)
 rw [List.length_drop] at this
 omega
theorem lz {s:Str} {x:Nat} (h:x < s.length) (hb:aE (bI (s.getD x 0))=true) (w:ae aE s 0=x+ae aE s (x:Int)):ae aE s 0=(x+1:Nat)+ae aE s ((x+1:Nat):Int):=by
 have:=bT (pr:=aE) (s:=s) (a:=(x:Int)) (by omega) (by omega) (by rw [Int.toNat_natCast];exact hb)
 have e:((x+1:Nat):Int)=(x:Int)+1:=rfl
 rw [e]
 omega
theorem yX {s:Str} {x:Nat} (h:x < s.length) (hb:aE (bI (s.getD x 0))=false) (w:ae aE s 0=x+ae aE s (x:Int)):ae aE s 0=x:=by
 have:=fq (pr:=aE) (s:=s) (a:=(x:Int)) (by omega) (by omega) (by rw [Int.toNat_natCast];exact hb)
 omega
theorem C9 {s:Str} {x:Nat} (h:s.length<=x) (w:ae aE s 0=x+ae aE s (x:Int)):ae aE s 0=x:=by
 have:=gd (pr:=aE) (s:=s) (a:=(x:Int)) (by omega)
 omega
theorem rf (s:Str):∀(f n:Nat),n<=s.length→0<=(jw s f n).1/\(jw s f n).1<=(s.length:Int)/\0<=(jw s f n).2.pos/\(jw s f n).2.pos<=(s.length:Int)
 | 0,n,h=>⟨Int.natCast_nonneg n,by show (n:Int)<=_;omega,Int.le_refl 0,by show (0:Int)<=_;omega⟩
 | f+1,n,h=>by
  unfold jw
  split
  ·split
   ·exact ⟨Int.le_refl 0,by show (0:Int)<=_;omega,Int.natCast_nonneg n,by show (n:Int)<=_;omega⟩
   ·exact rf s f _ (jV h)
  ·exact ⟨Int.natCast_nonneg n,by show (n:Int)<=_;omega,Int.le_refl 0,by show (0:Int)<=_;omega⟩
theorem uv (s:Str):0<=(bL s).1/\(bL s).1<=(s.length:Int)/\0<=(bL s).2.pos/\(bL s).2.pos<=(s.length:Int):=by
 have h:=cQ (pr:=aE) (s:=s) (a:=0) (Int.le_refl 0) (by omega)
 unfold bL
 split
 ·exact ⟨Int.natCast_nonneg _,by show ((ae aE s 0:Nat):Int)<=_;omega,Int.le_refl 0,by show (0:Int)<=_;omega⟩
 ·exact rf s _ _ (by omega)
def G2 (s:Str) (x:TK3):Prop:=(x.2.2.err=0→1<=x.2.1/\x.2.1<=(s.length:Int))/\0<=x.2.2.pos/\x.2.2.pos<=(s.length:Int)
theorem iV (s:Str):G2 s lG:=⟨fun e=>absurd e (by decide),Int.le_refl 0,by show (0:Int)<=_;omega⟩
theorem kU {s:Str} {k n:Int} {t:Str} (h1:1<=n) (h2:n<=(s.length:Int)):G2 s (okK k t n):=⟨fun _=>⟨h1,h2⟩,Int.le_refl 0,by show (0:Int)<=_;omega⟩
theorem jW (s:Str):∀(f:Nat) (acc:Str) (i:Nat),i<=s.length→G2 s (b8 s f acc i)
 | 0,_,_,_=>iV s
 | f+1,acc,i,h=>by
  unfold b8
  split
  ·split
   ·exact kU (by omega) (by omega)
   split
   ·exact iV s
   split
   ·split
    ·exact iV s
    split
    ·exact iV s
    ·exact jW s f _ _ (by omega)
   split
   ·exact ⟨fun e=>absurd e (by decide:¬(30:Int)=0),Int.natCast_nonneg i,by show (i:Int)<=_;omega⟩
   ·exact jW s f _ _ (jV h)
  ·exact iV s
theorem Ca {s:Str} (h:s≠[]) (hb:bp (bI (s.getD 0 0))=true):1<=bU s:=by
 match s with
 | []=>exact absurd rfl h
 | b ::r=>
  have hb:bp (bI b)=true:=hb
  unfold bU
  rw [if_pos hb]
  omega
theorem yY {s:Str} (h:0 < s.length):G2 s (bM s):=by
 have hl:=rc s
 have hw:=cQ (pr:=aD) (s:=s) (a:=0) (Int.le_refl 0) (by omega)
 unfold bM
 split
 ·next hb=>
  have hp:=Ca (s:=s) (by intro e;rw [e] at h;exact absurd h (by decide)) (by unfold bp;rcases hb with e | e <;> rw [e] <;> simp only [Bool.true_or,Bool.or_true])
  unfold lx
  split
  ·exact kU (by omega) (by omega)
  split
  ·exact kU (by omega) (by omega)
  split
  ·exact kU (by omega) (by omega)
  ·exact iV s
 split
 ·next hd=>
  have hp:=bT (pr:=aD) (s:=s) (a:=0) (Int.le_refl 0) (by omega) (by show aD (bI (s.getD 0 0))=true;unfold aD;rw [hd];simp only [Bool.true_or,Bool.or_true])
  unfold ly
  split
  ·exact kU (by omega) (by omega)
  split
  ·exact kU (by omega) (by omega)
  ·exact iV s
 split
 ·exact jW s _ _ _ h
 ·unfold nl
  split
  ·exact kU (by omega) (by omega)
  split
  ·exact kU (by omega) (by omega)
  ·exact iV s
theorem kV {s:Str} {x:Nat} (h:x < s.length) (hb:aD (bI (s.getD x 0))=true) (w:ae aD s 0=x+ae aD s (x:Int)):ae aD s 0=(x+1:Nat)+ae aD s ((x+1:Nat):Int):=by
 have:=bT (pr:=aD) (s:=s) (a:=(x:Int)) (by omega) (by omega) (by rw [Int.toNat_natCast];exact hb)
 have e:((x+1:Nat):Int)=(x:Int)+1:=rfl
 rw [e]
 omega
theorem Cb {s:Str} {x:Nat} (h:x < s.length) (hb:aD (bI (s.getD x 0))=false) (w:ae aD s 0=x+ae aD s (x:Int)):ae aD s 0=x:=by
 have:=fq (pr:=aD) (s:=s) (a:=(x:Int)) (by omega) (by omega) (by rw [Int.toNat_natCast];exact hb)
 omega
theorem EH {s:Str} {x:Nat} (h:s.length<=x) (w:ae aD s 0=x+ae aD s (x:Int)):ae aD s 0=x:=by
 have:=gd (pr:=aD) (s:=s) (a:=(x:Int)) (by omega)
 omega
end Go.Pd
end
section
namespace Go.Pd
open Go.AL
def H3:Str:=[48,49,50,51,52,53,54,55,56,57]
def kd (d:Nat):Str:=(H3.take (d+1)).drop d
def mr:Nat→Nat→Str→Str
 | 0,_,acc=>acc
 | f+1,n,acc=>if 10<=n then mr f (n / 10) (kd (n / 10 % 10)++acc) else acc
def bJ (n:Int):Str:=mr 20 n.toNat (kd (n.toNat % 10))
def gH (v:Vers):Str:=bJ v.major++[46]++bJ v.minor++[46]++bJ v.patch++(if v.pre=[] then [] else [45]++v.pre)
def cO (v:Vers):Str × Int:=if bz v=0 then (gH v,0) else ([],40)
theorem nq (d:Nat):(kd d).length<=1:=by
 unfold kd
 rw [List.length_drop,List.length_take]
 omega
theorem wI:∀(f n:Nat) (acc:Str),(mr f n acc).length<=f+acc.length
 | 0,_,acc=>by show acc.length<=_;omega
 | f+1,n,acc=>by
  unfold mr
  split
  ·have:=wI f (n / 10) (kd (n / 10 % 10)++acc)
   have h:=nq (n / 10 % 10)
   rw [List.length_append] at this
   omega
  ·omega
theorem rg (n:Int):(bJ n).length<=21:=by
 have:=wI 20 n.toNat (kd (n.toNat % 10))
 have h:=nq (n.toNat % 10)
 unfold bJ
 omega
theorem kW {v:Vers} (h:bz v=0):(0<=v.major/\v.major<=999999)/\(0<=v.minor/\v.minor<=999999)/\(0<=v.patch/\v.patch<=999999)/\v.pre.length<=24:=by
 unfold bz at h
 split at h
 ·exact absurd h (by decide)
 split at h
 ·exact absurd h (by decide)
 omega
def rvL (s:Str):Nat→Nat→Nat→List Int→Option (List Int × Nat)
 | 0,_,_,_=>none
 | f+1,i,p,r=>
  if i < s.length/\¬bI (s.getD i 0)=45 then
   if bI (s.getD i 0)=46 then (if 2 < p+1 then none else rvL s f (i+1) (p+1) r)
   else if bI (s.getD i 0) < 48∨57 < bI (s.getD i 0) then none
   else rvL s f (i+1) p (if r.getD p 0<=999999 then r.set p (10 *r.getD p 0+(bI (s.getD i 0) - 48)) else r)
  else some (r,i)
def cz (s:Str) (r:List Int) (i:Nat):Vers:=⟨r.getD 0 0,r.getD 1 0,r.getD 2 0,if i < s.length then s.drop (i+1) else []⟩
def fM (s:Str):Option (List Int × Nat)→Vers × Int
 | none=>(noV,40)
 | some (r,i)=>if ¬(cO (cz s r i)).2=0∨¬(cO (cz s r i)).1=s then (noV,40) else (cz s r i,0)
def er (s:Str):Vers × Int:=if 60 < s.length then (noV,40) else fM s (rvL s (s.length+1) 0 0 [0,0,0])
theorem G3 {r:List Int} {p:Nat} {v:Int} (hl:r.length=3) (hp:p<=2) (hb:∀k,k < 3→0<=r.getD k 0/\r.getD k 0<=99999999) (h0:0<=v) (h1:v<=99999999):∀k,k < 3→0<=(r.set p v).getD k 0/\(r.set p v).getD k 0<=99999999:=by
 match r,hl with
 | [a,b,c],_=>
  intro k hk
  have e:p=0∨p=1∨p=2:=by omega
  have g:k=0∨k=1∨k=2:=by omega
  rcases e with rfl | rfl | rfl <;> rcases g with rfl | rfl | rfl <;> first | exact ⟨h0,h1⟩ | exact hb 0 (by decide) | exact hb 1 (by decide) | exact hb 2 (by decide)
end Go.Pd
end
section
namespace Go.Pd
open Go.AL
def ke (f n:Nat):Str:=mr f n (kd (n % 10))
theorem wJ:∀(f n:Nat) (a b:Str),mr f n (a++b)=mr f n a++b
 | 0,_,_,_=>rfl
 | f+1,n,a,b=>by
  unfold mr
  split
  ·rw [←List.append_assoc];exact wJ f _ _ b
  ·rfl
theorem jX {f n:Nat} (h:n < 10):ke f n=kd n:=by
 unfold ke
 rw [Nat.mod_eq_of_lt h]
 cases f with
 | zero=>rfl
 | succ f=>unfold mr;rw [if_neg (by omega)]
theorem lA {f n:Nat} (h:10<=n):ke (f+1) n=ke f (n / 10)++kd (n % 10):=by
 unfold ke
 show (if 10<=n then mr f (n / 10) (kd (n / 10 % 10)++kd (n % 10)) else _)=_
 rw [if_pos h,wJ]
theorem nr {d:Nat} (h:d < 10):kd d=[UInt8.ofNat (48+d)]:=by
 have:d=0∨d=1∨d=2∨d=3∨d=4∨d=5∨d=6∨d=7∨d=8∨d=9:=by omega
 rcases this with rfl | rfl | rfl | rfl | rfl | rfl | rfl | rfl | rfl | rfl <;> rfl
theorem lB {d:Nat} (h:d < 10):(UInt8.ofNat (48+d)).toNat=48+d:=by
 rw [UInt8.toNat_ofNat']
 exact Nat.mod_eq_of_lt (by omega)
theorem rh (a:Str) (c:UInt8):bK (a++[c])=10 *bK a+((c.toNat:Int) - 48):=by
 unfold bK
 rw [List.foldl_append]
 rfl
theorem EI {d:Nat} (h:d < 10):aK (bI (UInt8.ofNat (48+d)))=true:=by
 unfold aK bI
 rw [lB h,Xd (by omega),Bool.true_and,Xd (by omega)]
theorem ri:∀(f n:Nat),n < 10 ^ (f+1)→bK (ke f n)=(n:Int)/\((ke f n).all fun c=>aK (bI c))=true/\1<=(ke f n).length/\(ke f n).length<=f+1/\(1<=n→bI ((ke f n).getD 0 0)≠48)
 | f,n,h=>by
  by_cases hs:n < 10
  ·rw [jX hs,nr hs]
   refine ⟨?_,?_,Nat.le_refl _,by show 1<=f+1;omega,fun h1=>?_⟩
   ·show 10 *(0:Int)+(((UInt8.ofNat (48+n)).toNat:Int) - 48)=n
    rw [lB hs]
    omega
   ·rw [List.all_cons,EI hs];rfl
   ·show ((UInt8.ofNat (48+n)).toNat:Int)≠48
    rw [lB hs]
    omega
  ·match f,h with
   | 0,h=>rw [Nat.zero_add,Nat.pow_one] at h;omega
   | f+1,h=>
    have h10:n / 10 < 10 ^ (f+1):=by
     rw [Nat.pow_succ] at h
     exact (Nat.div_lt_iff_lt_mul (by decide)).2 h
    obtain ⟨e1,e2,e3,e4,e5⟩:=ri f (n / 10) h10
    have hm:n % 10 < 10:=Nat.mod_lt _ (by decide)
    rw [lA (by omega),nr hm]
    refine ⟨?_,?_,?_,?_,fun _=>?_⟩
    ·rw [rh,e1,lB hm]
     omega
    ·rw [List.all_append,e2,List.all_cons,EI hm];rfl
    ·rw [List.length_append];omega
    ·rw [List.length_append];show _+1<=_;omega
    ·have:=e5 (by omega)
     rw [List.getD_eq_getElem?_getD,List.getElem?_append_left (by omega),←List.getD_eq_getElem?_getD]
     exact this
theorem rl {c:UInt8} (h:aK (bI c)=true):48<=c.toNat/\c.toNat<=57:=by
 unfold aK bI at h
 rw [Bool.and_eq_true,decide_eq_true_eq,decide_eq_true_eq] at h
 omega
theorem rm:∀(l:Str),(l.all fun c=>aK (bI c))=true→∀a:Int,0<=a→a<=l.foldl (fun n c=>10 *n+((c.toNat:Int) - 48)) a
 | [],_,a,_=>Int.le_refl a
 | c ::r,h,a,ha=>by
  rw [List.all_cons,Bool.and_eq_true] at h
  have:=rl h.1
  have:=rm r h.2 (10 *a+((c.toNat:Int) - 48)) (by omega)
  show a<=r.foldl _ (10 *a+((c.toNat:Int) - 48))
  omega
theorem sD:∀(f:Nat) (t:Str),t.length<=f+1→t≠[]→(t.all fun c=>aK (bI c))=true→(1 < t.length→bI (t.getD 0 0)≠48)→ke f (bK t).toNat=t
 | f,t,hl,hn,ha,hz=>by
  rcases List.eq_nil_or_concat t with e | ⟨a,c,rfl⟩
  ·exact absurd e hn
  ·rw [List.concat_eq_append] at hl hn ha hz ⊢
   rw [List.all_append,Bool.and_eq_true,List.all_cons,Bool.and_eq_true] at ha
   have hc:=rl ha.2.1
   rw [rh]
   have ec:UInt8.ofNat (48+(c.toNat - 48))=c:=by
    rw [show 48+(c.toNat - 48)=c.toNat by omega]
    exact UInt8.ofNat_toNat
   by_cases e:a=[]
   ·subst e
    have e0:(10 *bK []+((c.toNat:Int) - 48)).toNat=c.toNat - 48:=by
     show (10 *(0:Int)+((c.toNat:Int) - 48)).toNat=_
     omega
    rw [e0,jX (by omega),nr (by omega),ec]
    rfl
   ·have hp:=List.length_pos_iff.2 e
    rw [List.length_append] at hl hz
    have hl:a.length+1<=f+1:=hl
    have hz:bI ((a++[c]).getD 0 0)≠48:=hz (by show 1 < a.length+1;omega)
    rw [List.getD_eq_getElem?_getD,List.getElem?_append_left hp,←List.getD_eq_getElem?_getD] at hz
    match f,hl with
    | 0,hl=>omega
    | f+1,hl=>
     have ih:=sD f a (by omega) e ha.1 (fun _=>hz)
     have hpos:1<=bK a:=by
      match a,ha.1,hz with
      | [],_,_=>exact absurd rfl e
      | x ::r,hx,hz=>
       rw [List.all_cons,Bool.and_eq_true] at hx
       have h1:=rl hx.1
       have hz:¬(x.toNat:Int)=48:=hz
       have:=rm r hx.2 (10 *0+((x.toNat:Int) - 48)) (by omega)
       show 1<=r.foldl _ (10 *0+((x.toNat:Int) - 48))
       omega
     have e1:(10 *bK a+((c.toNat:Int) - 48)).toNat / 10=(bK a).toNat:=by omega
     have e2:(10 *bK a+((c.toNat:Int) - 48)).toNat % 10=c.toNat - 48:=by omega
     rw [lA (by omega),e1,e2,ih,nr (by omega),ec]
end Go.Pd
end
section
namespace Go.Pd
open Go.AL
theorem sE:∀(f n:Nat),n < 10 ^ (f+1)→ke (f+1) n=ke f n
 | f,n,h=>by
  by_cases hs:n < 10
  ·rw [jX hs,jX hs]
  ·match f,h with
   | 0,h=>rw [Nat.zero_add,Nat.pow_one] at h;omega
   | f+1,h=>
    have h10:n / 10 < 10 ^ (f+1):=by
     rw [Nat.pow_succ] at h
     exact (Nat.div_lt_iff_lt_mul (by decide)).2 h
    have h':10<=n:=by omega
    rw [lA (f:=f+1) h',sE f _ h10,lA (f:=f) (n:=n) h']
theorem sF (n:Nat) (h:n < 10 ^ 6):∀j,ke (5+j) n=ke 5 n
 | 0=>rfl
 | j+1=>by
  rw [←sF n h j]
  exact sE (5+j) n (Nat.lt_of_lt_of_le h (Nat.pow_le_pow_right (by decide) (by omega)))
theorem Ai (n:Int):bJ n=ke 20 n.toNat:=rfl
theorem gh {n:Int} (h0:0<=n) (h1:n<=999999):bK (bJ n)=n/\((bJ n).all fun c=>aK (bI c))=true/\bJ n≠[]/\dX (bJ n)=true:=by
 have hn:n.toNat < 10 ^ 6:=Nat.lt_of_le_of_lt (show n.toNat<=999999 by omega) (by decide)
 have e:bJ n=ke 5 n.toNat:=by rw [Ai];exact sF n.toNat hn 15
 obtain ⟨e1,e2,e3,e4,e5⟩:=ri 5 n.toNat hn
 rw [e]
 have hne:ke 5 n.toNat≠[]:=fun q=>by rw [q] at e3;exact absurd e3 (by decide)
 refine ⟨by rw [e1];omega,e2,hne,?_⟩
 unfold dX bG
 rw [Xf hne,e2,Xd e4]
 by_cases hz:n.toNat=0
 ·rw [hz];rfl
 ·rw [Xf (p:=bI _=48) (e5 (by omega)),Bool.and_false]
  rfl
theorem G4 {c x:UInt8} (h:aK (bI c)=true) (hx:x.toNat < 48):c≠x:=fun e=>by
 have:=rl h
 rw [e] at this
 omega
theorem il {c:UInt8}:∀(a r:Str),(∀x∈a,x≠c)→splitB c (a++c ::r)=a ::splitB c r
 | [],r,_=>by show (if c=c then _ else _)=_;rw [if_pos rfl]
 | b ::a,r,h=>by
  have ih:=il a r (fun x hx=>h x (List.mem_cons_of_mem _ hx))
  show (if b=c then _ else match splitB c (a++c ::r) with | []=>[[b]] | p ::ps=>(b ::p) ::ps)=_
  rw [if_neg (h b (List.mem_cons_self ..)),ih]
theorem rn {c:UInt8}:∀(a:Str),(∀x∈a,x≠c)→splitB c a=[a]
 | [],_=>rfl
 | b ::a,h=>by
  have ih:=rn a (fun x hx=>h x (List.mem_cons_of_mem _ hx))
  show (if b=c then _ else match splitB c a with | []=>[[b]] | p ::ps=>(b ::p) ::ps)=_
  rw [if_neg (h b (List.mem_cons_self ..)),ih]
def Aj (c:UInt8):List Str→Str
 | []=>[]
 | [a]=>a
 | a ::b ::r=>a++c ::Aj c (b ::r)
theorem lC (c:UInt8):∀s:Str,splitB c s≠[]
 | []=>by simp [splitB]
 | b ::r=>by
  unfold splitB
  split
  ·simp
  ·split <;> simp
theorem oR (c:UInt8):∀s:Str,Aj c (splitB c s)=s
 | []=>rfl
 | b ::r=>by
  have ih:=oR c r
  have hn:=lC c r
  unfold splitB
  split
  ·next e=>
   match hs:splitB c r with
   | []=>exact absurd hs hn
   | p ::ps=>
    rw [hs] at ih
    show []++c ::Aj c (p ::ps)=b ::r
    rw [ih,e];rfl
  ·match hs:splitB c r with
   | []=>exact absurd hs hn
   | [p]=>
    rw [hs] at ih
    show b ::p=b ::r
    exact congrArg _ ih
   | p ::q ::ps=>
    rw [hs] at ih
    show (b ::p)++c ::Aj c (q ::ps)=b ::r
    exact congrArg (b ::·) ih
theorem uw (p:UInt8→Bool):∀s:Str,(s.takeWhile p).length < s.length→p (s.getD (s.takeWhile p).length 0)=false
 | [],h=>absurd h (by simp)
 | b ::r,h=>by
  by_cases e:p b=true
  ·rw [List.takeWhile_cons_of_pos e] at h ⊢
   exact uw p r (by simpa using h)
  ·rw [List.takeWhile_cons_of_neg e]
   exact Bool.eq_false_iff.2 e
theorem Cc (s:Str):s=aC s++(if dI s=true then 45 ::cg s else []):=by
 have h:aC s++s.drop (aC s).length=s:=List.prefix_iff_eq_append.1 (List.takeWhile_prefix _)
 have hn:=uw (fun b=>!decide (b=45)) s
 unfold dI cg
 by_cases hm:(aC s).length < s.length
 ·rw [if_pos (Xd hm)]
  have hn:(!decide (s.getD (aC s).length 0=45))=false:=hn hm
  rw [Bool.not_eq_false'] at hn
  have hn:=Xo hn
  rw [bf s _ 0 hm,hn] at h
  exact h.symm
 ·rw [if_neg (fun e=>hm (Xo e)),List.append_nil]
  rw [List.drop_eq_nil_of_le (by omega),List.append_nil] at h
  exact h.symm
theorem EJ {x y:Str} (hx:∀c∈x,c≠45) (hy:y=[]∨∃r,y=45 ::r):aC (x++y)=x:=by
 unfold aC
 rw [List.takeWhile_append_of_pos (fun a ha=>by simpa using hx a ha)]
 rcases hy with rfl | ⟨r,rfl⟩
 ·simp
 ·rw [List.takeWhile_cons_of_neg (by simp),List.append_nil]
theorem lD {t:Str} {x:UInt8} (h:(t.all fun c=>aK (bI c))=true) (hx:x.toNat < 48):∀c∈t,c≠x:=fun c hc=>G4 (List.all_eq_true.1 h c hc) hx
theorem yZ {v:Vers} (h:bz v=0):bQ (gH v)=(v,0):=by
 obtain ⟨⟨a1,a2⟩,⟨b1,b2⟩,⟨c1,c2⟩,_⟩:=kW h
 obtain ⟨p1,p2,p3,p4⟩:=gh a1 a2
 obtain ⟨q1,q2,q3,q4⟩:=gh b1 b2
 obtain ⟨r1,r2,r3,r4⟩:=gh c1 c2
 have e:gH v=(bJ v.major++46 ::(bJ v.minor++46 ::bJ v.patch))++(if v.pre=[] then [] else 45 ::v.pre):=by
  unfold gH
  simp only [List.append_assoc,List.cons_append,List.nil_append]
 have hx:∀c∈bJ v.major++46 ::(bJ v.minor++46 ::bJ v.patch),c≠45:=by
  intro c hc
  rw [List.mem_append,List.mem_cons,List.mem_append,List.mem_cons] at hc
  rcases hc with hc | rfl | hc | rfl | hc
  ·exact lD p2 (by decide) c hc
  ·decide
  ·exact lD q2 (by decide) c hc
  ·decide
  ·exact lD r2 (by decide) c hc
 have hc:aC (gH v)=bJ v.major++46 ::(bJ v.minor++46 ::bJ v.patch):=by
  rw [e]
  refine EJ hx ?_
  split
  ·exact .inl rfl
  ·exact .inr ⟨_,rfl⟩
 have hs:splitB 46 (aC (gH v))=[bJ v.major,bJ v.minor,bJ v.patch]:=by
  rw [hc,il _ _ (lD p2 (by decide)),il _ _ (lD q2 (by decide)),rn _ (lD r2 (by decide))]
 have hr:cg (gH v)=v.pre:=by
  unfold cg
  rw [hc]
  conv=>lhs;rw [e]
  rw [←List.drop_drop,List.drop_left]
  split
  ·next z=>rw [z];rfl
  ·rfl
 have hm:dI (gH v)=true→¬cg (gH v)=[]:=by
  intro m z
  rw [hr] at z
  unfold dI at m
  have m:=Xo m
  rw [hc] at m
  conv at m=>rhs;rw [e]
  rw [if_pos z,List.append_nil] at m
  omega
 rw [iS (by rw [hs];rfl) hm,hs]
 have hv:dr (gH v)=v:=by
  unfold dr
  rw [hs,hr]
  show (⟨bK (bJ v.major),bK (bJ v.minor),bK (bJ v.patch),v.pre⟩:Vers)=v
  rw [p1,q1,r1]
 rw [hv,if_pos h,if_pos]
 rw [List.all_cons,List.all_cons,List.all_cons,p4,q4,r4]
 rfl
theorem mt {t:Str} (h:dX t=true):bJ (bK t)=t:=by
 unfold dX bG at h
 simp only [Bool.and_eq_true,Bool.not_eq_true',decide_eq_false_iff_not,decide_eq_true_eq,Bool.and_eq_false_iff] at h
 obtain ⟨⟨⟨h1,h2⟩,h3⟩,h4⟩:=h
 rw [Ai]
 exact sD 20 t (by omega) h1 h2 (fun q=>h4.elim (fun z=>absurd q z) (fun z=>z))
theorem z6 {s:Str} (h:(bQ s).2=0):gH (bQ s).1=s/\bz (bQ s).1=0:=by
 by_cases h3:(splitB 46 (aC s)).length=3
 ·by_cases hm:dI s=true→¬cg s=[]
  ·rw [iS h3 hm] at h ⊢
   by_cases hn:(splitB 46 (aC s)).all dX=true
   ·rw [if_pos hn] at h ⊢
    by_cases hc:bz (dr s)=0
    ·rw [if_pos hc] at h ⊢
     refine ⟨?_,hc⟩
     have hj:=oR 46 (aC s)
     have hcr:=Cc s
     have ht:(if cg s=[] then [] else [45]++cg s)=if dI s=true then 45 ::cg s else []:=by
      by_cases m:dI s=true
      ·rw [if_pos m,if_neg (hm m)];rfl
      ·rw [if_neg m,if_pos]
       unfold dI at m
       have m:¬(aC s).length < s.length:=fun e=>m (Xd e)
       unfold cg
       exact List.drop_eq_nil_of_le (by omega)
     show bJ (dr s).major++[46]++bJ (dr s).minor++[46]++bJ (dr s).patch++(if cg s=[] then [] else [45]++cg s)=s
     rw [ht]
     unfold dr
     match hl:splitB 46 (aC s),h3 with
     | [a,b,c],_=>
      rw [hl] at hn hj
      rw [List.all_cons,List.all_cons,List.all_cons,Bool.and_eq_true,Bool.and_eq_true,Bool.and_eq_true] at hn
      show bJ (bK a)++[46]++bJ (bK b)++[46]++bJ (bK c)++_=s
      rw [mt hn.1,mt hn.2.1,mt hn.2.2.1]
      have hj:a++46 ::(b++46 ::c)=aC s:=hj
      conv=>rhs;rw [hcr,←hj]
      simp only [List.append_assoc,List.cons_append,List.nil_append]
    ·rw [if_neg hc] at h;exact absurd h (by decide)
   ·rw [if_neg hn] at h;exact absurd h (by decide)
  ·have:dI s=true/\cg s=[]:=by
    by_cases m:dI s=true
    ·by_cases z:cg s=[]
     ·exact ⟨m,z⟩
     ·exact absurd (fun _=>z) hm
    ·exact absurd (fun q=>absurd q m) hm
   rw [oH this.1 this.2] at h
   exact absurd h (by decide)
 ·rw [oG h3] at h
  exact absurd h (by decide)
theorem z7 (s:Str):(bQ s).2=0∨bQ s=(noV,40):=by
 unfold bQ
 repeat' split
 all_goals first | exact .inr rfl | exact .inl rfl
theorem wK (s:Str) (h:(bQ s).2=0):bQ s=((bQ s).1,0):=by rw [←h]
end Go.Pd
end
section
namespace Go.Pd
open Go.AL
def EK (t:Str) (a:Int):Int:=t.foldl (fun n c=>10 *n+((c.toNat:Int) - 48)) a
theorem sG (c:UInt8) (t:Str) (a:Int):EK (c ::t) a=EK t (10 *a+((c.toNat:Int) - 48)):=rfl
theorem G5 {r:List Int} {p:Nat} (hl:r.length=3) (hp:p<=2):r.set p (r.getD p 0)=r:=by
 match r,hl with
 | [a,b,c],_=>
  have e:p=0∨p=1∨p=2:=by omega
  rcases e with rfl | rfl | rfl <;> rfl
theorem uz {r:List Int} {p:Nat} {v:Int} (hl:r.length=3) (hp:p<=2):(r.set p v).getD p 0=v:=by
 match r,hl with
 | [a,b,c],_=>
  have e:p=0∨p=1∨p=2:=by omega
  rcases e with rfl | rfl | rfl <;> rfl
theorem G6 {r:List Int} {p:Nat} {v w:Int} (hl:r.length=3) (hp:p<=2):(r.set p v).set p w=r.set p w:=by
 match r,hl with
 | [a,b,c],_=>
  have e:p=0∨p=1∨p=2:=by omega
  rcases e with rfl | rfl | rfl <;> rfl
theorem uA (s:Str) (f i p:Nat) (r:List Int):rvL s (f+1) i p r=if i < s.length/\¬bI (s.getD i 0)=45 then
   if bI (s.getD i 0)=46 then (if 2 < p+1 then none else rvL s f (i+1) (p+1) r)
   else if bI (s.getD i 0) < 48∨57 < bI (s.getD i 0) then none
   else rvL s f (i+1) p (if r.getD p 0<=999999 then r.set p (10 *r.getD p 0+(bI (s.getD i 0) - 48)) else r)
  else some (r,i):=rfl
theorem fv {s:Str} {i:Nat} {c:UInt8} {x:Str} (h:s.drop i=c ::x):i < s.length/\s.getD i 0=c/\s.drop (i+1)=x:=by
 have hi:i < s.length:=by
  by_cases hi:i < s.length
  ·exact hi
  ·rw [List.drop_eq_nil_of_le (by omega)] at h;cases h
 rw [bf s i 0 hi] at h
 injection h with h1 h2
 exact ⟨hi,h1,h2⟩
theorem jY (s:Str):∀(t rest:Str) (f i p:Nat) (r:List Int),s.drop i=t++rest→(t.all fun c=>aK (bI c))=true→p<=2→r.length=3→0<=r.getD p 0→EK t (r.getD p 0)<=999999→
  rvL s (t.length+f) i p r=rvL s f (i+t.length) p (r.set p (EK t (r.getD p 0)))
 | [],rest,f,i,p,r,hd,ha,hp,hl,h0,h1=>by
  show rvL s (0+f) i p r=rvL s f (i+0) p (r.set p (r.getD p 0))
  rw [G5 hl hp,Nat.zero_add]
  rfl
 | c ::t,rest,f,i,p,r,hd,ha,hp,hl,h0,h1=>by
  rw [List.all_cons,Bool.and_eq_true] at ha
  have hc:=rl ha.1
  obtain ⟨g1,g2,g3⟩:=fv hd
  have eb:bI (s.getD i 0)=(c.toNat:Int):=by rw [g2];rfl
  rw [sG] at h1
  have hm:=rm t ha.2 (10 *r.getD p 0+((c.toNat:Int) - 48)) (by omega)
  have hm:10 *r.getD p 0+((c.toNat:Int) - 48)<=EK t (10 *r.getD p 0+((c.toNat:Int) - 48)):=hm
  have e:(c ::t).length+f=(t.length+f)+1:=by show t.length+1+f=_;omega
  rw [e,uA,eb,if_pos ⟨g1,by omega⟩,if_neg (by omega),if_neg (by omega),if_pos (by omega)]
  have ih:=jY s t rest f (i+1) p (r.set p (10 *r.getD p 0+((c.toNat:Int) - 48))) g3 ha.2 hp (by rw [List.length_set];exact hl) (by rw [uz hl hp];omega) (by rw [uz hl hp];exact h1)
  rw [ih,uz hl hp,G6 hl hp,sG]
  have e2:i+1+t.length=i+(c ::t).length:=by show _=i+(t.length+1);omega
  rw [e2]
theorem Ak {s:Str} {f i p:Nat} {r:List Int} {x:Str} (h:s.drop i=46 ::x) (hp:p<=1):rvL s (f+1) i p r=rvL s f (i+1) (p+1) r:=by
 obtain ⟨g1,g2,g3⟩:=fv h
 have eb:bI (s.getD i 0)=46:=by rw [g2];rfl
 rw [uA,eb,if_pos ⟨g1,by decide⟩,if_pos rfl,if_neg (by omega)]
theorem G7 {s:Str} {f i p:Nat} {r:List Int} (h:s.drop i=[]∨∃x,s.drop i=45 ::x):rvL s (f+1) i p r=some (r,i):=by
 rw [uA,if_neg]
 rintro ⟨h1,h2⟩
 rcases h with h | ⟨x,h⟩
 ·have:=congrArg List.length h
  rw [List.length_drop] at this
  have:s.length - i=0:=this
  omega
 ·obtain ⟨_,g2,_⟩:=fv h
  rw [g2] at h2
  exact h2 rfl
theorem jx {s a b:Str} {i:Nat} (h:s.drop i=a++b):s.drop (i+a.length)=b:=by
 rw [←List.drop_drop,h,List.drop_left]
theorem Cd {s a b c y:Str} (hs:s=a++46 ::(b++46 ::(c++y))) (hy:y=[]∨∃x,y=45 ::x)
  (da:(a.all fun c=>aK (bI c))=true) (db:(b.all fun c=>aK (bI c))=true) (dc:(c.all fun c=>aK (bI c))=true)
  (va:bK a<=999999) (vb:bK b<=999999) (vc:bK c<=999999) :
  rvL s (s.length+1) 0 0 [0,0,0]=some ([bK a,bK b,bK c],a.length+1+b.length+1+c.length):=by
 have hl:s.length=a.length+(b.length+(c.length+y.length+1)+1):=by
  rw [hs]
  simp only [List.length_append,List.length_cons]
 have e:s.length+1=a.length+((b.length+((c.length+(y.length+1))+1))+1):=by omega
 have h0:s.drop 0=a++46 ::(b++46 ::(c++y)):=hs
 have h1:=jx h0
 have h2:=(fv h1).2.2
 have h3:=jx h2
 have h4:=(fv h3).2.2
 have h5:=jx h4
 have s1:rvL s (a.length+((b.length+((c.length+(y.length+1))+1))+1)) 0 0 [0,0,0]=rvL s ((b.length+((c.length+(y.length+1))+1))+1) (0+a.length) 0 [bK a,0,0]:=
  jY s a _ _ 0 0 [0,0,0] h0 da (by decide) rfl (Int.le_refl 0) va
 have s2:rvL s ((b.length+((c.length+(y.length+1))+1))+1) (0+a.length) 0 [bK a,0,0]=rvL s (b.length+((c.length+(y.length+1))+1)) (0+a.length+1) 1 [bK a,0,0]:=Ak h1 (by decide)
 have s3:rvL s (b.length+((c.length+(y.length+1))+1)) (0+a.length+1) 1 [bK a,0,0]=rvL s ((c.length+(y.length+1))+1) (0+a.length+1+b.length) 1 [bK a,bK b,0]:=
  jY s b _ _ _ 1 [bK a,0,0] h2 db (by decide) rfl (Int.le_refl 0) vb
 have s4:rvL s ((c.length+(y.length+1))+1) (0+a.length+1+b.length) 1 [bK a,bK b,0]=rvL s (c.length+(y.length+1)) (0+a.length+1+b.length+1) 2 [bK a,bK b,0]:=Ak h3 (by decide)
 have s5:rvL s (c.length+(y.length+1)) (0+a.length+1+b.length+1) 2 [bK a,bK b,0]=rvL s (y.length+1) (0+a.length+1+b.length+1+c.length) 2 [bK a,bK b,bK c]:=
  jY s c _ _ _ 2 [bK a,bK b,0] h4 dc (by decide) rfl (Int.le_refl 0) vc
 have s6:rvL s (y.length+1) (0+a.length+1+b.length+1+c.length) 2 [bK a,bK b,bK c]=some ([bK a,bK b,bK c],0+a.length+1+b.length+1+c.length):=by
  refine G7 ?_
  rcases hy with q | ⟨x,q⟩
  ·exact .inl (by rw [h5,q])
  ·exact .inr ⟨x,by rw [h5,q]⟩
 rw [e,s1,s2,s3,s4,s5,s6,Nat.zero_add]
theorem z8 (s:Str):er s=bQ s:=by
 rcases z7 s with h | h
 ·obtain ⟨g1,g2⟩:=z6 h
  have hv:=wK s h
  generalize (bQ s).1=v at g1 g2 hv
  rw [hv]
  obtain ⟨⟨a1,a2⟩,⟨b1,b2⟩,⟨c1,c2⟩,d1⟩:=kW g2
  obtain ⟨p1,p2,p3,p4⟩:=gh a1 a2
  obtain ⟨q1,q2,q3,q4⟩:=gh b1 b2
  obtain ⟨r1,r2,r3,r4⟩:=gh c1 c2
  have n6:∀{t:Str},dX t=true→t.length<=6:=fun {t} q=>by
   unfold dX at q
   simp only [Bool.and_eq_true,decide_eq_true_eq] at q
   exact q.1.2
  have l1:=n6 p4
  have l2:=n6 q4
  have l3:=n6 r4
  have e:s=bJ v.major++46 ::(bJ v.minor++46 ::(bJ v.patch++(if v.pre=[] then [] else 45 ::v.pre))):=by
   conv=>lhs;rw [←g1]
   unfold gH
   simp only [List.append_assoc,List.cons_append,List.nil_append]
  have hy:(if v.pre=[] then [] else 45 ::v.pre)=[]∨∃x,(if v.pre=[] then [] else 45 ::v.pre)=45 ::x:=by
   split
   ·exact .inl rfl
   ·exact .inr ⟨_,rfl⟩
  have hR:=Cd e hy p2 q2 r2 (by rw [p1];exact a2) (by rw [q1];exact b2) (by rw [r1];exact c2)
  have hyl:(if v.pre=[] then [] else 45 ::v.pre).length<=25:=by
   split
   ·exact Nat.zero_le _
   ·show v.pre.length+1<=25;omega
  have hl:s.length=(bJ v.major).length+((bJ v.minor).length+((bJ v.patch).length+(if v.pre=[] then [] else 45 ::v.pre).length+1)+1):=by
   conv=>lhs;rw [e]
   simp only [List.length_append,List.length_cons]
  unfold er
  rw [if_neg (by omega),hR,p1,q1,r1]
  have h5:s.drop ((bJ v.major).length+1+(bJ v.minor).length+1+(bJ v.patch).length)=(if v.pre=[] then [] else 45 ::v.pre):=by
   have h0:s.drop 0=bJ v.major++46 ::(bJ v.minor++46 ::(bJ v.patch++(if v.pre=[] then [] else 45 ::v.pre))):=e
   have:=jx (fv (jx (fv (jx h0)).2.2)).2.2
   rw [Nat.zero_add] at this
   exact this
  have hver:cz s [v.major,v.minor,v.patch] ((bJ v.major).length+1+(bJ v.minor).length+1+(bJ v.patch).length)=v:=by
   unfold cz
   by_cases z:v.pre=[]
   ·rw [if_pos z] at hl
    have:¬(bJ v.major).length+1+(bJ v.minor).length+1+(bJ v.patch).length < s.length:=by
     rw [hl];show ¬_ < _+(_+(_+0+1)+1);omega
    rw [if_neg this,←z]
    rfl
   ·rw [if_neg z] at h5
    obtain ⟨w1,_,w3⟩:=fv h5
    rw [if_pos w1,w3]
    rfl
  show (if ¬(cO (cz s _ _)).2=0∨¬(cO (cz s _ _)).1=s then (noV,40) else (cz s _ _,0))=_
  rw [hver]
  have hsh:cO v=(gH v,0):=by unfold cO;rw [if_pos g2]
  rw [hsh,if_neg]
  rintro (q | q)
  ·exact q rfl
  ·exact q g1
 ·rw [h]
  unfold er
  split
  ·rfl
  ·match rvL s (s.length+1) 0 0 [0,0,0] with
   | none=>rfl
   | some (r,i)=>
    show (if ¬(cO (cz s r i)).2=0∨¬(cO (cz s r i)).1=s then (noV,40) else (cz s r i,0))=_
    by_cases q:¬(cO (cz s r i)).2=0∨¬(cO (cz s r i)).1=s
    ·rw [if_pos q]
    ·exfalso
     generalize cz s r i=v at q
     by_cases hc:bz v=0
     ·have hsh:cO v=(gH v,0):=by unfold cO;rw [if_pos hc]
      rw [hsh] at q
      have q2:gH v=s:=Classical.byContradiction fun z=>q (.inr z)
      have:=yZ hc
      rw [q2,h] at this
      injection this with _ t
      exact absurd t (by decide)
     ·have hsh:cO v=([],40):=by unfold cO;rw [if_neg hc]
      rw [hsh] at q
      exact q (.inl (by decide))
end Go.Pd
end
section
open Go Go.Proofs Go.RowKit Go.Pd
namespace Go.AL.Seat
def vS (s:Str):Value:=.string ⟨s.toArray⟩
def fN (acc:List Str) (b:UInt8):List Str:=if b=46 then acc++[[]] else acc.set (acc.length - 1) (acc.getD (acc.length - 1) []++[b])
def dn (s:Str) (k:Nat):List Str:=(s.take k).foldl fN [[]]
theorem iW (s:Str) (k:Nat) (h:k < s.length):dn s (k+1)=fN (dn s k) (s[k]'h):=by
 unfold dn
 rw [List.take_succ_eq_append_getElem h,List.foldl_append];rfl
theorem za (acc:List Str) (b:UInt8) (h:1<=acc.length):1<=(fN acc b).length/\(fN acc b).length<=acc.length+1:=by
 unfold fN;split
 ·rw [List.length_append];simp
 ·rw [List.length_set];omega
theorem mu (s:Str):∀k,k<=s.length→1<=(dn s k).length/\(dn s k).length<=k+1
 | 0,_=>⟨Nat.le_refl _,Nat.le_refl _⟩
 | k+1,h=>by
  obtain ⟨h1,h2⟩:=mu s k (by omega)
  rw [iW s k (by omega)]
  have:=za (dn s k) (s[k]'(by omega)) h1
  omega
theorem zb {acc:List Str} {b:UInt8} {m:Nat} (h:∀x∈acc,x.length<=m):∀x∈fN acc b,x.length<=m+1:=by
 intro x hx
 unfold fN at hx
 split at hx
 ·rcases List.mem_append.1 hx with k | k
  ·have:=h x k;omega
  ·simp only [List.mem_singleton] at k;subst k;simp
 ·rcases List.mem_or_eq_of_mem_set hx with k | k
  ·have:=h x k;omega
  ·subst k
   rw [List.length_append]
   rcases Nat.lt_or_ge (acc.length - 1) acc.length with q | q
   ·have:=h (acc.getD (acc.length - 1) []) (by rw [List.getD_eq_getElem?_getD,List.getElem?_eq_getElem q];exact List.getElem_mem q)
    simp only [List.length_singleton];omega
   ·rw [List.getD_eq_getElem?_getD,List.getElem?_eq_none q];simp
theorem mw (s:Str):∀k,k<=s.length→∀x∈dn s k,x.length<=k
 | 0,_=>fun x hx=>by simp [dn] at hx;subst hx;simp
 | k+1,h=>by
  rw [iW s k (by omega)]
  exact zb (mw s k (by omega))
theorem Tryz.info9':(Tryz.prog.info? 9).map (fun i=>(i.zero,i.size,i.bytes))=some (some (.string ByteArray.empty),1,16):=by kernel_rfl
set_option maxHeartbeats 1600000 in
set_option maxRecDepth 1000000 in
theorem Ce (s:Str) (w:World) (hs:s.length<=4096) :
  Calls Tryz.prog 251 #[vS s] w fun e w'=>∃v,e=.returned v/\w'.ownsRow w.heap.size 9 1 v (dn s s.length).length ((dn s s.length).map vS)/\Below w.heap.size w w':=by
 obtain ⟨i0,hi,hz0,hz1,hz2⟩:=info_parts Tryz.info9'
 unfold vS
 go_enter Tryz.func251,Tryz.ntmps251
 go_wp2
 go_loopw [3,4] (fun v i wr=>∃k:Nat,k<=s.length/\i=.int .i64 k/\wr.ownsRow w.heap.size 9 1 v (dn s k).length ((dn s k).map vS)/\Below w.heap.size w wr)
  (fun _ i _=>s.length - (RowKit.intOf i).toNat)
 case atStart=>
  exact ⟨0,Nat.zero_le _,rfl,⟨rfl,.inr ⟨w.heap.size,1,#[.string ⟨#[]⟩],rfl,Nat.le_refl _,heap_alloc_new w _,Nat.le_refl _,by decide,rfl,rfl⟩⟩,(Below.refl _ _).alloc (Nat.le_refl _) _⟩
 case round=>
  obtain ⟨k,hk,rfl,hown,hnx⟩:=hrel
  have hpl:=mu s k hk
  obtain ⟨n,hn⟩:∃n,(dn s k).length=n+1:=⟨_,(Nat.succ_pred (by omega)).symm⟩
  rw [hn] at hown
  have hsh:=hown.2
  rcases hsh with ⟨_,h0⟩ | ⟨g,cap,cur,rfl,hg1,_,hg2,hg3,_,_⟩
  ·omega
  have hfz:wr.frozen? ⟨g,n,none⟩=false:=hown.frozenAt n
  by_cases hlt:k < s.length
  ·have hlt':k < (⟨s.toArray⟩:ByteArray).size:=by show k < s.toArray.size;simpa using hlt
   by_cases hd:(s[k]'hlt).toNat=46
   ·have hnext:dn s (k+1)=dn s k++[[]]:=by
     rw [iW s k hlt];unfold fN;rw [if_pos (UInt8.toNat_inj.1 hd)]
    have hd2:((((⟨s.toArray⟩:ByteArray)[k]'hlt').toNat:Int) ==46)=true:=by
     have e:((⟨s.toArray⟩:ByteArray)[k]'hlt').toNat=(s[k]'hlt).toNat:=by rfl
     rw [e,hd];rfl
    go_wp2_with (at_builtin;refine wpList_append_own _ rfl _ _ 25 rfl w.heap.size 9 i0 (.string ByteArray.empty) 1 16 Tryz.underlying25 hi hz0 hz1 hz2 rfl (by decide) _ _ _ rfl (hown.alloc _) ⟨wr.heap.size,0,none⟩ 1 1 [.string ByteArray.empty] rfl rfl ?c1 ?c2 ?c3 ?c4 ?c5 ?_)
    case c1=>
     intro j u hj
     match j,hj with
     | 0,hj=>simp at hj;subst hj;simp [Addr.add];rfl
    case c2=>intro u hu;simp at hu;subst hu;rfl
    case c3=>unfold maxLen;omega
    case c4=>omega
    case c5=>have:=hnx.size;simp;omega
    intro v' w1 hown' hgrow _
    have hown2:w1.ownsRow w.heap.size 9 1 v' (dn s (k+1)).length ((dn s (k+1)).map vS):=by
     rw [hnext,List.length_append,hn,List.map_append];exact hown'
    clear hown'
    go_wp2
    go_roundw
    case rel=>exact ⟨k+1,by omega,by go_num,hown2,(hnx.alloc (by have:=hnx.size;omega) _).grown hgrow (by have:=hnx.size;simp;omega) (by intro q hq;cases hq;exact hg1)⟩
    case measure=>simp [RowKit.intOf];omega
   ·have hd2:((((⟨s.toArray⟩:ByteArray)[k]'hlt').toNat:Int) ==46)=false:=by
     have e:((⟨s.toArray⟩:ByteArray)[k]'hlt').toNat=(s[k]'hlt).toNat:=by rfl
     rw [e];simp;omega
    have hn5:n<=5000:=by omega
    obtain ⟨L,hlast,hLl,hnext⟩:∃L:Str,wr.cell? ⟨g,n,none⟩=some (.string ⟨L.toArray⟩)/\L.length<=5000/\dn s (k+1)=(dn s k).set n (L++[s[k]'hlt]):=by
     refine ⟨(dn s k).getD n [],?_,?_,?_⟩
     ·rw [hown.cellAt n (by omega),List.getElem?_map,List.getElem?_eq_getElem (by omega),List.getD_eq_getElem?_getD,List.getElem?_eq_getElem (by omega)];rfl
     ·have:=mw s k hk ((dn s k).getD n []) (by rw [List.getD_eq_getElem?_getD,List.getElem?_eq_getElem (by omega)];exact List.getElem_mem _)
      omega
     ·rw [iW s k hlt];unfold fN
      rw [if_neg (fun e=>hd (by rw [e];rfl)),hn];rfl
    have hrun:∀wx,(Instr.slice 9 (.string ⟨s.toArray⟩) (some (.int .i64 (k:Int))) (some (.int .i64 ((k:Int)+1))) none).run Tryz.prog wx=.ok (.string ⟨#[s[k]'hlt]⟩) wx:=fun wx=>by
     rw [run_slice_string wx 9 _ .i64 .i64 _ _ Tryz.underlying9 (by omega) (by omega) (by show (k:Int)+1<=(s.toArray.size:Int);simp;omega),ByteArray.extract_mk]
     have e1:((k:Int)+1).toNat - ((k:Int)).toNat=1:=by omega
     rw [e1,Int.toNat_natCast,List.drop_eq_getElem_cons hlt];rfl
    have hadd:∀wx,(Op.stringOp .add (⟨L.toArray⟩:ByteArray) (⟨#[s[k]'hlt]⟩:ByteArray)).run Tryz.prog wx=.ok (.string ⟨(L++[s[k]'hlt]).toArray⟩) wx:=fun wx=>
     run_string_add_lists wx L [s[k]'hlt] (by omega) (by simp)
    go_wp2_with fail
    all_goals (try (exfalso;rename_i hq _;rw [hd2] at hq;cases hq))
    go_region
    all_goals go_wp2
    all_goals go_roundw
    case rel=>
     refine ⟨k+1,by omega,by go_num,?_,(hnx.setCell hg1 _).drew⟩
     rw [hnext,List.length_set,hn,List.map_set]
     exact (hown.stored n _).1.drew
    case measure=>simp [RowKit.intOf];omega
  ·have hkl:k=s.length:=by omega
   subst hkl
   go_wp2_with fail
   go_ret
   exact ⟨_,rfl,by rw [hn];exact hown,hnx⟩
theorem kX:∀(s:Str) (acc:List Str) (p:Str),s.foldl fN (acc++[p])=acc++(match splitB 46 s with | []=>[p] | q ::qs=>(p++q) ::qs)
 | [],acc,p=>by simp [splitB]
 | b ::r,acc,p=>by
  rw [List.foldl_cons]
  by_cases hb:b=46
  ·subst hb
   have e1:fN (acc++[p]) 46=(acc++[p])++[[]]:=by unfold fN;rw [if_pos rfl]
   rw [e1,kX r (acc++[p]) []]
   have hne:=lC 46 r
   have e2:splitB 46 (46 ::r)=[] ::splitB 46 r:=by rw [splitB,if_pos rfl]
   rw [e2]
   cases e:splitB 46 r with
   | nil=>exact absurd e hne
   | cons q qs=>simp
  ·have e1:fN (acc++[p]) b=acc++[p++[b]]:=by
    unfold fN
    rw [if_neg hb]
    simp
   rw [e1,kX r acc (p++[b])]
   have hne:=lC 46 r
   have e2:splitB 46 (b ::r)=match splitB 46 r with | []=>[[b]] | p ::ps=>(b ::p) ::ps:=by rw [splitB,if_neg hb];rfl
   rw [e2]
   cases e:splitB 46 r with
   | nil=>exact absurd e hne
   | cons q qs=>simp
theorem wL (s:Str):dn s s.length=splitB 46 s:=by
 unfold dn
 rw [List.take_length]
 have:=kX s [] []
 simp only [List.nil_append] at this
 rw [this]
 cases e:splitB 46 s with
 | nil=>exact absurd e (lC 46 s)
 | cons q qs=>rfl
variable [Tabs]
theorem zc:ad Tryz.prog 251 (p1 .str fun s=>⟨some (s.length<=4096),none,.lst .str (splitB 46 s) none,[]⟩):=by
 refine be (au.mk' Tryz.func251 (by kernel_rfl)) fun s _ ho=>?_
 have hlen:s.length<=4096:=ho _ rfl
 intro w pub e vs hp ht hv hs hd hi
 obtain ⟨v,rfl,h1⟩:=VL.one_inv hv
 obtain ⟨rfl,hl⟩:=h1.str_inv
 refine (Ce s w hlen).mono ?_
 rintro en w' ⟨v,rfl,hown,hb⟩
 have hpl:=mu s s.length (Nat.le_refl _)
 have hmem:=mw s s.length (Nat.le_refl _)
 rw [wL] at hown hpl hmem
 generalize splitB 46 s=xs at *
 rcases hown.2 with ⟨_,h0⟩ | ⟨g,cap,cur,rfl,hg1,hg,hg2,hg3,hg4,hg5⟩
 ·omega
 have hw1:ac .str=1:=rfl
 refine ⟨fun b o=>pub b o∨(w.heap.size<=b/\∃v,w'.cell? ⟨b,o,none⟩=some v),e,?_⟩
 refine And.intro (fun b pv u h=>by cases h) (And.intro ?_ ?_)
 ·refine ow (vs:=xs.map vS) hg (by rw [hw1];exact hg5) ⟨?_,fun j c u hc hu=>?_⟩ hg2 hg3 (fun i hi=>.inr ⟨hg1,?_⟩) (fun id hid=>by cases hid)
  ·rw [bO,hw1];simp
  ·have e1:bg .str xs=xs.map AV.str:=by
    unfold bg
    rw [List.map_eq_flatMap]
    rfl
   rw [e1,List.getElem?_map,Option.map_eq_some_iff] at hc
   rw [List.getElem?_map,Option.map_eq_some_iff] at hu
   obtain ⟨x,hx,rfl⟩:=hc
   obtain ⟨y,hy,rfl⟩:=hu
   rw [hx] at hy
   cases hy
   exact .str x (by have:=hmem x (List.mem_of_getElem? hx);unfold ck;omega)
  ·have:=hown.cellAt i hi
   rw [this]
   exact ⟨_,List.getElem?_eq_getElem (by rw [hown.1];exact hi)⟩
 ·exact {
   os:=hb.os
   tape:=hb.tape
   output:=hb.output
   size:=hb.size
   block:=fun b h _=>hb.block b h
   cell:=fun b o h _=>ay (hb.block b h) o
   kind:=fun b h _=>⟨bA (hb.block b h),fun o=>ba (hb.block b h) o⟩
   ext:=⟨fun _ c h=>⟨c,h,CLe.refl c⟩,fun _ _ h=>.inl h,fun b o h=>by obtain ⟨v,hv⟩:=hp b o h;exact ay (hb.block b (bd hv)) o⟩
   fresh:=fun b o h=>h.elim .inl (fun k=>.inr (.inl k.1))
   ok:=fun b o h=>by
    rcases h with h | h
    ·obtain ⟨v,hv⟩:=hp b o h;exact ⟨v,(ay (hb.block b (bd hv)) o).trans hv⟩
    ·exact h.2
   slots:=fun id o h=>by simp [putB,ax] at h
   dom:=fun id _=>hd id rfl
   inj:=fun i j c d b o h=>by rw [hd i rfl] at h;cases h}
end Go.AL.Seat
end
section
namespace Go.Pd
open Go.AL
abbrev SR3:=Shape × Int × Flt
abbrev TR3:=Trm × Int × Flt
end Go.Pd
end
section
namespace Go.Pd
open Go.AL
abbrev st (l:List Tokn) (a:Int):PS:=⟨l,a,0,0⟩
variable {l:List Tokn}
section
variable {l:List Tokn} {R:PS→Shape × PS} {R':Int→SR3}
end
end Go.Pd
end
section
namespace Go.AL
variable [Tabs]
section
variable {P:Program}
def p4 (τ σ ρ μ:Ty) (F:den τ→den σ→den ρ→den μ→Ans):Pat
 | [a,b,c,d],[]=>(match arg τ a,arg σ b,arg ρ c,arg μ d with | some a,some b,some c,some d=>some (F a b c d) | _,_,_,_=>none)
 | _,_=>none
end
end Go.AL
end
section
namespace Go.Pd
open Go.AL
def p0 (A:Ans):Pat
 | [],[]=>some A
 | _,_=>none
theorem H4 [Tabs] {P:Program} {f:Nat} {A:Ans} (he:au P f) (h:ar P f [] [] A):ad P f (p0 A):=by
 intro args S A' hA _ _
 unfold p0 at hA
 split at hA
 ·simp only [Xs] at hA
  subst hA
  exact ⟨he,h⟩
 ·cases hA
end Go.Pd
end
section
open Go Go.AL Go.Pd
namespace Go.AL.Seat
theorem Cf (c:Int)  :
  if decide ((97:Int)<=c)=true then True/\decide (c<=(122:Int))=bq c/\True else True/\false=bq c/\True:=by
 simp only [true_and,and_true]
 unfold bq
 by_cases h:(97:Int)<=c
 ·rw [if_pos (Xd h)];simp [h]
 ·rw [if_neg (by simpa using h)];simp [h]
theorem Cg (c:Int)  :
  if decide ((65:Int)<=c)=true then True/\decide (c<=(90:Int))=bw c/\True else True/\false=bw c/\True:=by
 simp only [true_and,and_true]
 unfold bw
 by_cases h:(65:Int)<=c
 ·rw [if_pos (Xd h)];simp [h]
 ·rw [if_neg (by simpa using h)];simp [h]
theorem Ch (c:Int)  :
  if decide ((48:Int)<=c)=true then True/\decide (c<=(57:Int))=aK c/\True else True/\false=aK c/\True:=by
 simp only [true_and,and_true]
 unfold aK
 by_cases h:(48:Int)<=c
 ·rw [if_pos (Xd h)];simp [h]
 ·rw [if_neg (by simpa using h)];simp [h]
theorem EL (s:Str) (hs:Wf .str s) :
  let A:=(0:Int);let B:=s=s/\A=A/\True;let C:=(↑(List.length s):Int);let D:=(0:UInt8);let E:=(1:Int);let F:=(↑(bU s):Int);(∃(x:Nat),(x<=List.length s/\bU s=x+bU (List.drop x s))/\A=(↑x:Int)/\B)/\∀(x:Nat),let G:=(↑x:Int);let H:=A<=G/\G<C;let I:=(↑(UInt8.toNat (List.getD s (Int.toNat G) D)):Int);let J:=inR IntKind.i64 (G+E)/\∃(y:Nat),(y<=List.length s/\bU s=y+bU (List.drop y s))/\List.length s - y<List.length s - x/\G+E=(↑y:Int)/\B;let K:=True/\G=F/\True;x<=List.length s/\bU s=x+bU (List.drop x s)→if decide (G<C)=true then H/\if bq I=true then J else H/\if bw I=true then J else H/\if aK I=true then J else H/\if decide (I=(95:Int))=true then J else K else K:=by
 conv=>zeta
 have ln:=hs.str
 have eb:∀b:UInt8,(b.toNat:Int)=bI b:=fun _=>rfl
 simp only [Int.toNat_natCast,eq_self,true_and,and_true,eb]
 refine ⟨⟨0,⟨Nat.zero_le _,by simp⟩,rfl⟩,?_⟩
 rintro k ⟨h1,h2⟩
 refine a6 (fun h=>?_) (fun h=>?_)
 ·replace h:=Xo h
  have hk:k < s.length:=by omega
  rw [bf s k 0 hk] at h2
  simp only [bU] at h2
  have fin:bp (bI (s.getD k 0))=true→(inR IntKind.i64 ((k:Int)+1)/\∃y:Nat,(y<=s.length/\bU s=y+bU (s.drop y))/\s.length - y < s.length - k/\(k:Int)+1=(y:Int)):=by
   intro e
   rw [if_pos e] at h2
   exact ⟨cp hk ln,k+1,⟨by omega,by omega⟩,by omega,by omega⟩
  have hr:bp (bI (s.getD k 0))=(bq (bI (s.getD k 0)) || bw (bI (s.getD k 0)) || aK (bI (s.getD k 0)) || decide (bI (s.getD k 0)=95)):=rfl
  refine ⟨by omega,a6 (fun a=>fin (by rw [hr,a];simp)) (fun a=>⟨by omega,a6 (fun b=>fin (by rw [hr,b];simp)) (fun b=>⟨by omega,a6 (fun c=>fin (by rw [hr,c];simp)) (fun c=>⟨by omega,a6 (fun d=>fin (by rw [hr,d];simp)) (fun d=>?_)⟩)⟩)⟩)⟩
  rw [if_neg ?_] at h2
  ·omega
  ·rw [hr];simp only [Bool.not_eq_true] at a b c d;rw [a,b,c,d];simp
 ·replace h:¬((k:Int) < (s.length:Int)):=fun e=>h (Xd e)
  have e:k=s.length:=by omega
  subst e
  rw [List.drop_length] at h2
  simp only [bU] at h2
  omega
theorem EM (s:Str) (l:List Str) (hl:Wf (.lst .str) l) :
  let A:=s=s/\l=l/\True;let B:=(↑(List.length l):Int);(∃(x:Nat),(x<=List.length l/\decide (s∈l)=decide (s∈List.drop x l))/\(0:Int)=(↑x:Int)/\A)/\∀(x:Nat),let C:=(↑x:Int);x<=List.length l/\decide (s∈l)=decide (s∈List.drop x l)→if decide (C<B)=true then ((0:Int)<=C/\C<B)/\if decide (s=List.getD l (Int.toNat C) (dfl Ty.str))=true then True/\true=decide (s∈l)/\True else inR IntKind.i64 (C+(1:Int))/\∃(y:Nat),(y<=List.length l/\decide (s∈l)=decide (s∈List.drop y l))/\List.length l - y<List.length l - x/\C+(1:Int)=(↑y:Int)/\A else True/\false=decide (s∈l)/\True:=by
 conv=>zeta
 have ln:=hl.len
 simp only [Int.toNat_natCast,eq_self,true_and,and_true]
 refine ⟨⟨0,⟨Nat.zero_le _,by simp⟩,rfl⟩,?_⟩
 rintro k ⟨h1,h2⟩
 refine a6 (fun h=>?_) (fun h=>?_)
 ·replace h:=Xo h
  have hk:k < l.length:=by omega
  rw [bf l k (dfl .str) hk] at h2
  refine ⟨by omega,a6 (fun a=>?_) (fun a=>?_)⟩
  ·rw [h2,Xo a];simp
  ·refine ⟨cp hk ln,k+1,⟨by omega,?_⟩,by omega,by omega⟩
   rw [h2,decide_eq_decide,List.mem_cons]
   constructor
   ·rintro (h | h)
    ·exact absurd (Xd h) a
    ·exact h
   ·exact Or.inr
 ·replace h:¬((k:Int) < (l.length:Int)):=fun e=>h (Xd e)
  have e:k=l.length:=by omega
  subst e
  rw [h2,List.drop_length];simp
theorem EN (s:Str)  :
  let A:=101;True/\decide (s∈[([109,111,100,117,108,A]:Str),([105,109,112,111,114,116]:Str),([112,105,110]:Str),([114,97,110,103,A]:Str),([116,121,112,A]:Str),([111,112,97,113,117,A]:Str),([108,A,116]:Str),([105,110]:Str),([A,120,112,111,114,116]:Str),([102,117,110]:Str),([105,102]:Str),([116,104,A,110]:Str),([A,108,115,A]:Str),([99,97,115,A]:Str),([111,102]:Str),([97,115]:Str),([110,A,119]:Str),([114,97,119]:Str),([116,114,117,A]:Str),([102,97,108,115,A]:Str)])=iQ s/\True:=by
 conv=>zeta
 exact ⟨trivial,rfl,trivial⟩
end Go.AL.Seat
end
