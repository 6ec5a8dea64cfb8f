/- Plain facts. What the functions' conditions say, proved. No condition. -/
import Derived.Test.YtldkmcedeenlnaaGreatDoorT05
import Derived.KernelRfl
import Derived.Sort.Walk0
set_option linter.all false
set_option maxRecDepth 100000
noncomputable section
namespace Go.AL.Seat
open Go Go.AL Go.Proofs
variable [Tabs]
def bf:List (Nat × TR):=[(3,r2),(26,⟨.strct false [(0,3),(1,9),(2,9),(3,3),(4,22),(5,22),(6,23),(7,24),(8,3)],9,152,[.int .i64 0,.str [],.str [],.int .i64 0,.nils,.nils,.nils,.nils,.int .i64 0],some (.st .term)⟩),(9,r9),(200,yw),(49,⟨.strct false [(0,3),(1,9),(2,9),(3,22),(4,23)],5,88,[.int .i64 0,.str [],.str [],.nils,.nils],some (.st .shape)⟩),(22,⟨.slice 9,1,24,[.nils],some (.lst .str)⟩),(71,r70),(60,⟨.strct false [(0,3),(1,3),(2,9),(3,22),(4,58),(5,3)],6,88,[.int .i64 0,.int .i64 0,.str [],.nils,.nils,.int .i64 0],some (.st .op)⟩),(61,⟨.slice 60,1,24,[.nils],some (.lst (.st .op))⟩),(69,⟨.slice 73,1,24,[.nils],some (.lst (.st .nm))⟩),(24,⟨.slice 26,1,24,[.nils],some (.lst (.st .term))⟩),(23,⟨.slice 49,1,24,[.nils],some (.lst (.st .shape))⟩),(4,⟨.bool,1,1,[.bool false],some .bool⟩),(31,⟨.slice 63,1,24,[.nils],some (.lst (.st .chunk))⟩),(68,r67),(58,⟨.slice 3,1,24,[.nils],some (.lst (.int .i64))⟩),(73,⟨.strct true [(0,9),(1,9)],2,32,[.str [],.str []],some (.st .nm)⟩),(5,r5),(51,⟨.strct false [(0,9),(1,9),(2,49)],7,120,[.str [],.str [],.int .i64 0,.str [],.str [],.nils,.nils],some (.st .bind)⟩),(66,⟨.ptr 31,1,8,[.nilp],none⟩),(63,⟨.strct false [(0,3),(1,61)],2,32,[.int .i64 0,.nils],some (.st .chunk)⟩),(32,r2),(122,⟨.slice 5,1,24,[.nils],some (.lst (.int .u8))⟩),(268,yx),(27,⟨.slice 51,1,24,[.nils],some (.lst (.st .bind))⟩),(110,r1),(203,r1),(46,r1),(20,r20),(267,yx),(48,⟨.strct false [(0,3),(1,9),(2,9),(3,22),(4,23)],5,88,[.int .i64 0,.str [],.str [],.nils,.nils],none⟩),(199,yw),(59,⟨.strct false [(0,3),(1,3),(2,9),(3,22),(4,58),(5,3)],6,88,[.int .i64 0,.int .i64 0,.str [],.nils,.nils,.int .i64 0],none⟩),(67,r67),(72,⟨.strct true [(0,9),(1,9)],2,32,[.str [],.str []],none⟩),(50,⟨.strct false [(0,9),(1,9),(2,49)],7,120,[.str [],.str [],.int .i64 0,.str [],.str [],.nils,.nils],none⟩),(70,r70),(62,⟨.strct false [(0,3),(1,61)],2,32,[.int .i64 0,.nils],none⟩),(25,⟨.strct false [(0,3),(1,9),(2,9),(3,3),(4,22),(5,22),(6,23),(7,24),(8,3)],9,152,[.int .i64 0,.str [],.str [],.int .i64 0,.nils,.nils,.nils,.nils,.int .i64 0],none⟩)]
theorem Bp:aI Tryz.prog bf:=.cons tk (.cons tk (.cons tk (.cons tk (.cons tk (.cons tk (.cons tk (.cons tk (.cons tk (.cons tk (.cons tk (.cons tk (.cons tk (.cons tk (.cons tk (.cons tk (.cons tk (.cons tk (.cons tk (.cons tk (.cons tk (.cons tk (.cons tk (.cons tk (.cons tk (.cons tk (.cons tk (.cons tk (.cons tk (.cons tk (.cons tk (.cons tk (.cons tk (.cons tk (.cons tk (.cons tk (.cons tk (.cons tk (.cons tk (.nil)))))))))))))))))))))))))))))))))))))))
end Go.AL.Seat
end
noncomputable section
namespace Go.AL.Seat
open Go Go.AL Go.Proofs
set_option maxRecDepth 1000000
variable [Tabs]
def DH (f:Nat):List (Option Nat):=if Nat.beq f 74 || Nat.beq f 75 then [some 2] else if Nat.beq f 45 || Nat.beq f 87 then [some 1] else []
def DI (f:Nat):Bool:=false
def uu:List (Nat × FB):=(11,ar bf Tryz.f11 15746551 [(13,[17])] (fun _=>false) (fun d=>Nat.beq d 17) (fun _=>false) false) ::(22,ar bf Tryz.f22 74783 [] (fun _=>false) (fun _=>false) (fun _=>false) false) ::(23,ar bf Tryz.f23 686032242260302265618932259388129843 [] (fun _=>false) (fun _=>false) (fun _=>false) false) ::(43,ar bf Tryz.f43 2223863 [] (fun _=>false) (fun _=>false) (fun _=>false) false) ::(44,ar bf Tryz.f44 7 [] (fun _=>false) (fun _=>false) (fun _=>false) false) ::(45,ar bf Tryz.f45 19 [] (fun _=>false) (fun _=>false) (fun _=>false) false) ::(46,ar bf Tryz.f46 4294975539 [] (fun _=>false) (fun _=>false) (fun _=>false) false) ::(47,ar bf Tryz.f47 8444249301320051 [] (fun _=>false) (fun _=>false) (fun d=>Nat.beq d 39) false) ::(48,ar bf Tryz.f48 51 [] (fun _=>false) (fun _=>false) (fun d=>Nat.beq d 49 || Nat.beq d 68) false) ::(49,ar bf Tryz.f49 37138201178561408728010064627 [] (fun _=>false) (fun _=>false) (fun d=>Nat.beq d 24 || Nat.beq d 106) false) ::(50,ar bf Tryz.f50 7 [] (fun _=>false) (fun _=>false) (fun _=>false) false) ::(51,ar bf Tryz.f51 467 [] (fun _=>false) (fun _=>false) (fun _=>false) false) ::(52,ar bf Tryz.f52 302379064902644767129997 [] (fun _=>false) (fun _=>false) (fun d=>Nat.beq d 27) false) ::(84,ar bf Tryz.f84 3537148372723500476506894142080440715070649430595550180525943565456506895 [] (fun _=>false) (fun _=>false) (fun _=>false) false) ::(85,ar bf Tryz.f85 27 [] (fun _=>false) (fun _=>false) (fun _=>false) false) ::(86,ar bf Tryz.f86 21 [] (fun _=>false) (fun _=>false) (fun _=>false) false) ::(87,ar bf Tryz.f87 5 [] (fun _=>false) (fun _=>false) (fun _=>false) false) ::(123,ar bf Tryz.f123 7 [] (fun _=>false) (fun _=>false) (fun _=>false) false) ::(124,ar bf Tryz.f124 27 [] (fun _=>false) (fun _=>false) (fun _=>false) false) ::(125,ar bf Tryz.f125 7 [] (fun _=>false) (fun _=>false) (fun _=>false) false) ::(126,ar bf Tryz.f126 2098133 [] (fun _=>false) (fun _=>false) (fun _=>false) false) ::(127,ar bf Tryz.f127 13 [] (fun _=>false) (fun _=>false) (fun _=>false) false) ::(128,ar bf Tryz.f128 27 [] (fun _=>false) (fun _=>false) (fun _=>false) false) ::(130,ar bf Tryz.f130 15 [] (fun _=>false) (fun _=>false) (fun _=>false) false) ::(129,ar bf Tryz.f129 19 [] (fun _=>false) (fun _=>false) (fun _=>false) false) ::(166,ar bf Tryz.f166 15 [] (fun _=>false) (fun _=>false) (fun _=>false) false) ::(165,ar bf Tryz.f165 19 [] (fun _=>false) (fun _=>false) (fun _=>false) false) ::(160,ar bf Tryz.f160 299063 [] (fun _=>false) (fun _=>false) (fun _=>false) false) ::(167,ar bf Tryz.f167 7 [] (fun _=>false) (fun _=>false) (fun _=>false) false) ::(141,ar bf Tryz.f141 7 [] (fun _=>false) (fun _=>false) (fun _=>false) false) ::(170,ar bf Tryz.f170 11 [] (fun _=>false) (fun _=>false) (fun _=>false) false) ::(169,ar bf Tryz.f169 19 [] (fun _=>false) (fun _=>false) (fun _=>false) false) ::(171,ar bf Tryz.f171 66483 [] (fun _=>false) (fun _=>false) (fun _=>false) false) ::(203,ar bf Tryz.f203 66483 [] (fun _=>false) (fun _=>false) (fun _=>false) false) ::(197,ar bf Tryz.f197 31 [] (fun _=>false) (fun _=>false) (fun _=>false) false) ::(198,ar bf Tryz.f198 2159703 [] (fun _=>false) (fun _=>false) (fun _=>false) false) ::(199,ar bf Tryz.f199 10141204803006463002229839257615 [] (fun _=>false) (fun _=>false) (fun _=>false) false) ::(181,ar bf Tryz.f181 16883 [] (fun _=>false) (fun _=>false) (fun _=>false) false) ::(205,ar bf Tryz.f205 66483 [] (fun _=>false) (fun _=>false) (fun _=>false) false) ::(226,ar bf Tryz.f226 33071 [] (fun _=>false) (fun _=>false) (fun _=>false) false) ::(228,ar bf Tryz.f228 17 [] (fun _=>false) (fun _=>false) (fun _=>false) false) ::(227,ar bf Tryz.f227 246479 [] (fun _=>false) (fun _=>false) (fun _=>false) false) ::(229,ar bf Tryz.f229 4444215 [] (fun _=>false) (fun _=>false) (fun _=>false) false) ::(230,ar bf Tryz.f230 5 [] (fun _=>false) (fun _=>false) (fun _=>false) false) ::[]
theorem uv:ab Tryz.prog uu:=ab.cons Tryz.func11 (by kernel_rfl) (ab.cons Tryz.func22 (by kernel_rfl) (ab.cons Tryz.func23 (by kernel_rfl) (ab.cons Tryz.func43 (by kernel_rfl) (ab.cons Tryz.func44 (by kernel_rfl) (ab.cons Tryz.func45 (by kernel_rfl) (ab.cons Tryz.func46 (by kernel_rfl) (ab.cons Tryz.func47 (by kernel_rfl) (ab.cons Tryz.func48 (by kernel_rfl) (ab.cons Tryz.func49 (by kernel_rfl) (ab.cons Tryz.func50 (by kernel_rfl) (ab.cons Tryz.func51 (by kernel_rfl) (ab.cons Tryz.func52 (by kernel_rfl) (ab.cons Tryz.func84 (by kernel_rfl) (ab.cons Tryz.func85 (by kernel_rfl) (ab.cons Tryz.func86 (by kernel_rfl) (ab.cons Tryz.func87 (by kernel_rfl) (ab.cons Tryz.func123 (by kernel_rfl) (ab.cons Tryz.func124 (by kernel_rfl) (ab.cons Tryz.func125 (by kernel_rfl) (ab.cons Tryz.func126 (by kernel_rfl) (ab.cons Tryz.func127 (by kernel_rfl) (ab.cons Tryz.func128 (by kernel_rfl) (ab.cons Tryz.func130 (by kernel_rfl) (ab.cons Tryz.func129 (by kernel_rfl) (ab.cons Tryz.func166 (by kernel_rfl) (ab.cons Tryz.func165 (by kernel_rfl) (ab.cons Tryz.func160 (by kernel_rfl) (ab.cons Tryz.func167 (by kernel_rfl) (ab.cons Tryz.func141 (by kernel_rfl) (ab.cons Tryz.func170 (by kernel_rfl) (ab.cons Tryz.func169 (by kernel_rfl) (ab.cons Tryz.func171 (by kernel_rfl) (ab.cons Tryz.func203 (by kernel_rfl) (ab.cons Tryz.func197 (by kernel_rfl) (ab.cons Tryz.func198 (by kernel_rfl) (ab.cons Tryz.func199 (by kernel_rfl) (ab.cons Tryz.func181 (by kernel_rfl) (ab.cons Tryz.func205 (by kernel_rfl) (ab.cons Tryz.func226 (by kernel_rfl) (ab.cons Tryz.func228 (by kernel_rfl) (ab.cons Tryz.func227 (by kernel_rfl) (ab.cons Tryz.func229 (by kernel_rfl) (ab.cons Tryz.func230 (by kernel_rfl) (ab.nil))))))))))))))))))))))))))))))))))))))))))))
end Go.AL.Seat
end
noncomputable section
namespace Go.AL.Seat
open Go Go.AL Go.Proofs Go.Pd
set_option maxRecDepth 1000000
def awC:List Chnk:=[⟨0,[⟨1,1,[],[],[],8⟩,⟨12,0,[],[],[],0⟩,⟨4,0,[],[],[],13⟩,⟨13,1,[],[],[],0⟩]⟩]
def awB:AV:=.tup [.lst (.st .chunk) awC none,.int .i64 0]
def uw (t:Trm) (k:Int) (nm:Str) (n pos:Int):Bool:=
 decide (t.kind=k) && t.pkg.isEmpty && decide (t.name=nm) && decide (t.n=n) && t.names.isEmpty && t.vars.isEmpty && t.shapes.isEmpty && decide (t.pos=pos)
theorem q9 {t:Trm} {k:Int} {nm:Str} {n pos:Int} (h:uw t k nm n pos=true):t=⟨k,[],nm,n,[],[],[],t.parts,pos⟩:=by
 simp only [uw,Bool.and_eq_true,decide_eq_true_eq,List.isEmpty_iff] at h
 obtain ⟨⟨⟨⟨⟨⟨⟨h1,h2⟩,h3⟩,h4⟩,h5⟩,h6⟩,h7⟩,h8⟩:=h
 cases t
 simp only at h1 h2 h3 h4 h5 h6 h7 h8
 subst h1 h2 h3 h4 h5 h6 h7 h8
 rfl
def DJ (t:Trm):Bool:=
 uw t 14 [120] 0 0 && (match t.parts with | [a,b]=>uw a 1 [] 1 8 && a.parts.isEmpty && (uw b 5 [120] 0 13 && b.parts.isEmpty) | _=>false)
theorem CJ {t:Trm} (h:DJ t=true):t=we:=by
 unfold DJ at h
 rw [Bool.and_eq_true] at h
 obtain ⟨h1,h2⟩:=h
 have e:=q9 h1
 split at h2
 ·rename_i a b hp
  simp only [Bool.and_eq_true,List.isEmpty_iff] at h2
  obtain ⟨⟨a1,a2⟩,b1,b2⟩:=h2
  have ea:=q9 a1
  have eb:=q9 b1
  rw [a2] at ea
  rw [b2] at eb
  rw [e,hp,ea,eb]
  rfl
 ·cases h2
variable [Tabs] [SeatLaid]
theorem E9:b8 Tryz.prog 11 [.st .term we,.lst (.st .bind) [] none] [] (.ret awB):=kj (n:=100) mixed Bp pZ uv (by kernel_rfl:tW bf uu DI DH 5000 (fN r6) 100 11 [.st .term we,.lst (.st .bind) [] none] []=some ⟨none,none,awB,[]⟩)
def D4:Pat:=q2 (.st .term) (.lst (.st .bind)) (fun t l=>DJ t && l.isEmpty) fun _ _=>awB
theorem CK:ay Tryz.prog 11 D4:=
 qS (O:=fun t l=>t=we/\l=[]) (iD (ee Tryz.func11) fun t l _ _ ho=>by
  obtain ⟨rfl,rfl⟩:=ho _ rfl
  exact E9) fun t l q=>by
  rw [Bool.and_eq_true] at q
  exact ⟨CJ q.1,List.isEmpty_iff.1 q.2⟩
end Go.AL.Seat
end
noncomputable section
namespace Go.AL.Seat
open Go Go.AL Go.Proofs
variable [Tabs]
def r8:List (Nat × TR):=[(3,r2),(60,⟨.strct false [(0,3),(1,3),(2,9),(3,22),(4,58),(5,3)],6,88,[.int .i64 0,.int .i64 0,.str [],.nils,.nils,.int .i64 0],some (.st .op)⟩),(32,r2),(9,r9),(61,⟨.slice 60,1,24,[.nils],some (.lst (.st .op))⟩),(31,⟨.slice 63,1,24,[.nils],some (.lst (.st .chunk))⟩),(58,⟨.slice 3,1,24,[.nils],some (.lst (.int .i64))⟩),(22,⟨.slice 9,1,24,[.nils],some (.lst .str)⟩),(63,⟨.strct false [(0,3),(1,61)],2,32,[.int .i64 0,.nils],some (.st .chunk)⟩),(26,⟨.strct false [(0,3),(1,9),(2,9),(3,3),(4,22),(5,22),(6,23),(7,24),(8,3)],9,152,[.int .i64 0,.str [],.str [],.int .i64 0,.nils,.nils,.nils,.nils,.int .i64 0],some (.st .term)⟩),(55,⟨.strct true [(0,32),(1,3)],2,16,[.int .i64 0,.int .i64 0],some (.st .fault)⟩),(23,⟨.slice 49,1,24,[.nils],some (.lst (.st .shape))⟩),(4,⟨.bool,1,1,[.bool false],some .bool⟩),(62,⟨.strct false [(0,3),(1,61)],2,32,[.int .i64 0,.nils],none⟩),(59,⟨.strct false [(0,3),(1,3),(2,9),(3,22),(4,58),(5,3)],6,88,[.int .i64 0,.int .i64 0,.str [],.nils,.nils,.int .i64 0],none⟩),(54,⟨.strct true [(0,32),(1,3)],2,16,[.int .i64 0,.int .i64 0],none⟩),(25,⟨.strct false [(0,3),(1,9),(2,9),(3,3),(4,22),(5,22),(6,23),(7,24),(8,3)],9,152,[.int .i64 0,.str [],.str [],.int .i64 0,.nils,.nils,.nils,.nils,.int .i64 0],none⟩),(24,⟨.slice 26,1,24,[.nils],some (.lst (.st .term))⟩),(49,⟨.strct false [(0,3),(1,9),(2,9),(3,22),(4,23)],5,88,[.int .i64 0,.str [],.str [],.nils,.nils],some (.st .shape)⟩),(48,⟨.strct false [(0,3),(1,9),(2,9),(3,22),(4,23)],5,88,[.int .i64 0,.str [],.str [],.nils,.nils],none⟩)]
theorem Bq:aI Tryz.prog r8:=.cons tk (.cons tk (.cons tk (.cons tk (.cons tk (.cons tk (.cons tk (.cons tk (.cons tk (.cons tk (.cons tk (.cons tk (.cons tk (.cons tk (.cons tk (.cons tk (.cons tk (.cons tk (.cons tk (.cons tk (.nil))))))))))))))))))))
end Go.AL.Seat
end
noncomputable section
namespace Go.AL.Seat
open Go Go.AL Go.Proofs
set_option maxRecDepth 1000000
variable [Tabs]
def DK (f:Nat):List (Option Nat):=[]
def DL (f:Nat):Bool:=false
def uz:List (Nat × FB):=(10,ar r8 Tryz.f10 1023 [] (fun _=>false) (fun _=>false) (fun _=>false) false) ::(13,ar r8 Tryz.f13 2361185502030729349235 [] (fun _=>false) (fun _=>false) (fun d=>Nat.beq d 70) false) ::(26,ar r8 Tryz.f26 288266660035428415 [] (fun _=>false) (fun _=>false) (fun _=>false) false) ::(59,ar r8 Tryz.f59 33571891 [] (fun _=>false) (fun _=>false) (fun _=>false) false) ::[]
theorem uA:ab Tryz.prog uz:=ab.cons Tryz.func10 (by kernel_rfl) (ab.cons Tryz.func13 (by kernel_rfl) (ab.cons Tryz.func26 (by kernel_rfl) (ab.cons Tryz.func59 (by kernel_rfl) (ab.nil))))
end Go.AL.Seat
end
noncomputable section
namespace Go.AL.Seat
open Go Go.AL Go.Proofs Go.Pd
set_option maxRecDepth 1000000
variable [Tabs] [SeatLaid]
def Br (l:List Chnk):Bool:=Nat.ble (lQ l).length 8796093022208
theorem uB {l:List Chnk} (h:Br l=true):hZ l:=Nat.le_of_ble_eq_true h
def D5:List (Nat × Pat):=[(21,xh [.str aw1] (awA we)),(11,D4),
 (15,q1 (.lst (.st .chunk)) Br fun l=>.tup [.str (fX l).1,.int .i64 (fX l).2]),
 (17,q1 .str (fun s=>Nat.ble s.length 68719476736) fun s=>.tup [.lst (.st .chunk) (kx s).1 none,.int .i64 (kx s).2]),
 (19,q2 (.lst (.st .chunk)) (.int .i64) (fun l _=>Br l) fun l n=>.int .i64 (ib l n))]
theorem Bt:bH Tryz.prog (fN D5):=sc (xi (ee Tryz.func21) E8) (sc CK
 (sc (AH jR fun _ h=>uB h) (sc (AH uq fun _ h=>Nat.le_of_ble_eq_true h) (sc (qS ng fun _ _ h=>uB h) sn))))
theorem uC:ay Tryz.prog 10 (p0 (.ret (.bool true))):=
 E6 (ee Tryz.func10) (kj (n:=20) mixed Bq Bt uA (by kernel_rfl:tW r8 uz DL DK 50 (fN D5) 20 10 [] []=some ⟨none,none,.bool true,[]⟩))
end Go.AL.Seat
end
section
namespace Go.Pd
open Go.AL
def dc:Str→Nat
 | []=>0
 | b ::r=>if dF (bI b)=true then dc r+1 else 0
theorem rf:∀s:Str,(dc s=s.length↔(s.all fun c=>dF (bI c))=true)
 | []=>by simp [dc]
 | b ::r=>by
  simp only [dc,List.length_cons,List.all_cons,Bool.and_eq_true]
  by_cases h:dF (bI b)=true
  ·rw [if_pos h,←rf r]
   constructor
   ·intro e;exact ⟨h,by omega⟩
   ·rintro ⟨_,e⟩;omega
  ·rw [if_neg h]
   constructor
   ·intro e;omega
   ·rintro ⟨e,_⟩;exact absurd e h
theorem ni (first:Int→Bool) (s:Str):cv first s=(!decide (s=[]) && decide (s.length<=24) && first (bI (s.getD 0 0)) && decide (dc s=s.length)):=by
 unfold cv
 congr 1
 rw [Bool.eq_iff_iff,decide_eq_true_eq]
 exact (rf s).symm
end Go.Pd
end
section
open Go Go.AL Go.Pd
namespace Go.AL.Seat
theorem yW (c:Int)  :
  if decide ((97:Int)<=c)=true then True/\decide (c<=(122:Int))=bS c/\True else True/\false=bS c/\True:=by
 simp only [true_and,and_true]
 unfold bS
 by_cases h:(97:Int)<=c
 ·rw [if_pos (Xd h)];simp [h]
 ·rw [if_neg (by simpa using h)];simp [h]
theorem yX (c:Int)  :
  if decide ((65:Int)<=c)=true then True/\decide (c<=(90:Int))=bX c/\True else True/\false=bX c/\True:=by
 simp only [true_and,and_true]
 unfold bX
 by_cases h:(65:Int)<=c
 ·rw [if_pos (Xd h)];simp [h]
 ·rw [if_neg (by simpa using h)];simp [h]
theorem yY (c:Int)  :
  if decide ((48:Int)<=c)=true then True/\decide (c<=(57:Int))=eM c/\True else True/\false=eM c/\True:=by
 simp only [true_and,and_true]
 unfold eM
 by_cases h:(48:Int)<=c
 ·rw [if_pos (Xd h)];simp [h]
 ·rw [if_neg (by simpa using h)];simp [h]
theorem Bu (s:Str) (hs:Wf .str s) :
  let A:=(0:Int);let B:=s=s/\A=A/\True;let C:=(↑(List.length s):Int);let D:=(0:UInt8);let E:=(1:Int);let F:=(↑(dc s):Int);(∃(x:Nat),(x<=List.length s/\dc s=x+dc (List.drop x s))/\A=(↑x:Int)/\B)/\∀(x:Nat),let G:=(↑x:Int);let H:=A<=G/\G<C;let I:=(↑(UInt8.toNat (List.getD s (Int.toNat G) D)):Int);let J:=inR IntKind.i64 (G+E)/\∃(y:Nat),(y<=List.length s/\dc s=y+dc (List.drop y s))/\List.length s - y<List.length s - x/\G+E=(↑y:Int)/\B;let K:=True/\G=F/\True;x<=List.length s/\dc s=x+dc (List.drop x s)→if decide (G<C)=true then H/\if bS I=true then J else H/\if bX I=true then J else H/\if eM I=true then J else H/\if decide (I=(95:Int))=true then J else K else K:=by
 conv=>zeta
 have ln:=hs.str
 have eb:∀b:UInt8,(b.toNat:Int)=bI b:=fun _=>rfl
 simp only [Int.toNat_natCast,eq_self,true_and,and_true,eb]
 refine ⟨⟨0,⟨Nat.zero_le _,by simp⟩,rfl⟩,?_⟩
 rintro k ⟨h1,h2⟩
 refine a7 (fun h=>?_) (fun h=>?_)
 ·replace h:=Xo h
  have hk:k < s.length:=by omega
  rw [bR s k 0 hk] at h2
  simp only [dc] at h2
  have fin:dF (bI (s.getD k 0))=true→(inR IntKind.i64 ((k:Int)+1)/\∃y:Nat,(y<=s.length/\dc s=y+dc (s.drop y))/\s.length - y < s.length - k/\(k:Int)+1=(y:Int)):=by
   intro e
   rw [if_pos e] at h2
   exact ⟨kg hk ln,k+1,⟨by omega,by omega⟩,by omega,by omega⟩
  have hr:dF (bI (s.getD k 0))=(bS (bI (s.getD k 0)) || bX (bI (s.getD k 0)) || eM (bI (s.getD k 0)) || decide (bI (s.getD k 0)=95)):=rfl
  refine ⟨by omega,a7 (fun a=>fin (by rw [hr,a];simp)) (fun a=>⟨by omega,a7 (fun b=>fin (by rw [hr,b];simp)) (fun b=>⟨by omega,a7 (fun c=>fin (by rw [hr,c];simp)) (fun c=>⟨by omega,a7 (fun d=>fin (by rw [hr,d];simp)) (fun d=>?_)⟩)⟩)⟩)⟩
  rw [if_neg ?_] at h2
  ·omega
  ·rw [hr];simp only [Bool.not_eq_true] at a b c d;rw [a,b,c,d];simp
 ·replace h:¬((k:Int) < (s.length:Int)):=fun e=>h (Xd e)
  have e:k=s.length:=by omega
  subst e
  rw [List.drop_length] at h2
  simp only [dc] at h2
  omega
theorem Bv (s:Str) (l:List Str) (hl:Wf (.lst .str) l) :
  let A:=s=s/\l=l/\True;let B:=(↑(List.length l):Int);(∃(x:Nat),(x<=List.length l/\decide (s∈l)=decide (s∈List.drop x l))/\(0:Int)=(↑x:Int)/\A)/\∀(x:Nat),let C:=(↑x:Int);x<=List.length l/\decide (s∈l)=decide (s∈List.drop x l)→if decide (C<B)=true then ((0:Int)<=C/\C<B)/\if decide (s=List.getD l (Int.toNat C) (dfl Ty.str))=true then True/\true=decide (s∈l)/\True else inR IntKind.i64 (C+(1:Int))/\∃(y:Nat),(y<=List.length l/\decide (s∈l)=decide (s∈List.drop y l))/\List.length l - y<List.length l - x/\C+(1:Int)=(↑y:Int)/\A else True/\false=decide (s∈l)/\True:=by
 conv=>zeta
 have ln:=hl.len
 simp only [Int.toNat_natCast,eq_self,true_and,and_true]
 refine ⟨⟨0,⟨Nat.zero_le _,by simp⟩,rfl⟩,?_⟩
 rintro k ⟨h1,h2⟩
 refine a7 (fun h=>?_) (fun h=>?_)
 ·replace h:=Xo h
  have hk:k < l.length:=by omega
  rw [bR l k (dfl .str) hk] at h2
  refine ⟨by omega,a7 (fun a=>?_) (fun a=>?_)⟩
  ·rw [h2,Xo a];simp
  ·refine ⟨kg hk ln,k+1,⟨by omega,?_⟩,by omega,by omega⟩
   rw [h2,decide_eq_decide,List.mem_cons]
   constructor
   ·rintro (h | h)
    ·exact absurd (Xd h) a
    ·exact h
   ·exact Or.inr
 ·replace h:¬((k:Int) < (l.length:Int)):=fun e=>h (Xd e)
  have e:k=l.length:=by omega
  subst e
  rw [h2,List.drop_length];simp
theorem Bw (s:Str)  :
  let A:=101;True/\decide (s∈[([109,111,100,117,108,A]:Str),([105,109,112,111,114,116]:Str),([112,105,110]:Str),([114,97,110,103,A]:Str),([116,121,112,A]:Str),([111,112,97,113,117,A]:Str),([108,A,116]:Str),([105,110]:Str),([A,120,112,111,114,116]:Str),([102,117,110]:Str),([105,102]:Str),([116,104,A,110]:Str),([A,108,115,A]:Str),([99,97,115,A]:Str),([111,102]:Str),([97,115]:Str),([110,A,119]:Str),([114,97,119]:Str),([116,114,117,A]:Str),([102,97,108,115,A]:Str)])=lG s/\True:=by
 conv=>zeta
 exact ⟨trivial,rfl,trivial⟩
theorem Bx (s:Str)  :
  let A:=(↑(List.length s):Int);let B:=(0:Int);let C:=True/\false=bY s/\True;if (!decide (s=[]))=true then if decide (A<=(24:Int))=true then (B<=B/\B<A)/\if bS (↑(UInt8.toNat (List.getD s (Int.toNat B) (0:UInt8))):Int)=true then if decide ((↑(dc s):Int)=A)=true then True/\(!lG s)=bY s/\True else C else C else C else C:=by
 conv=>zeta
 have eb:∀b:UInt8,(b.toNat:Int)=bI b:=fun _=>rfl
 simp only [Int.toNat_natCast,Int.toNat_zero,eq_self,true_and,and_true,eb]
 have hF:bY s=(!decide (s=[]) && decide (s.length<=24) && bS (bI (s.getD 0 0)) && decide (dc s=s.length) && !lG s):=by unfold bY;rw [ni]
 refine a7 (fun a=>?_) (fun a=>?_)
 ·have a':decide (s=[])=false:=by simpa using a
  have hpos:0 < s.length:=List.length_pos_iff.2 (of_decide_eq_false a')
  refine a7 (fun b=>?_) (fun b=>?_)
  ·have b':s.length<=24:=by have:=Xo b;omega
   refine ⟨by omega,a7 (fun c=>?_) (fun c=>?_)⟩
   ·refine a7 (fun d=>?_) (fun d=>?_)
    ·have d':dc s=s.length:=by have:=Xo d;omega
     rw [hF,a',c,d'];simp [b']
    ·have d':¬dc s=s.length:=fun e=>d (Xd (by omega))
     rw [hF];simp [d']
   ·simp only [Bool.not_eq_true] at c
    rw [hF,c];simp
  ·have b':¬s.length<=24:=fun e=>b (Xd (by omega))
   rw [hF];simp [b']
 ·have a':decide (s=[])=true:=by simpa using a
  rw [hF,a'];simp
theorem yZ (s:Str)  :
  let A:=(↑(List.length s):Int);let B:=(0:Int);let C:=True/\false=eP s/\True;if (!decide (s=[]))=true then if decide (A<=(24:Int))=true then (B<=B/\B<A)/\if bX (↑(UInt8.toNat (List.getD s (Int.toNat B) (0:UInt8))):Int)=true then True/\decide ((↑(dc s):Int)=A)=eP s/\True else C else C else C:=by
 conv=>zeta
 have eb:∀b:UInt8,(b.toNat:Int)=bI b:=fun _=>rfl
 simp only [Int.toNat_natCast,Int.toNat_zero,eq_self,true_and,and_true,eb]
 have hF:eP s=(!decide (s=[]) && decide (s.length<=24) && bX (bI (s.getD 0 0)) && decide (dc s=s.length)):=by unfold eP;rw [ni]
 refine a7 (fun a=>?_) (fun a=>?_)
 ·have a':decide (s=[])=false:=by simpa using a
  have hpos:0 < s.length:=List.length_pos_iff.2 (of_decide_eq_false a')
  refine a7 (fun b=>?_) (fun b=>?_)
  ·have b':s.length<=24:=by have:=Xo b;omega
   refine ⟨by omega,a7 (fun c=>?_) (fun c=>?_)⟩
   ·rw [hF,a',c]
    simp [b',Int.ofNat_inj]
   ·simp only [Bool.not_eq_true] at c
    rw [hF,c];simp
  ·have b':¬s.length<=24:=fun e=>b (Xd (by omega))
   rw [hF];simp [b']
 ·have a':decide (s=[])=true:=by simpa using a
  rw [hF,a'];simp
theorem za (l:List Str) (hl:Wf (.lst .str) l) :
  let A:=(0:Int);let B:=True;let C:=(↑(List.length l):Int);let D:=dfl Ty.str;let E:=B/\false=di l/\B;let F:=l=l/\true=true/\false=false/\B;let G:=(1:Int);(∃(x:Nat),let H:=List.take x l;(x<=List.length l/\List.all H bY=true/\List.Nodup H)/\A=(↑x:Int)/\l=l/\B)/\∀(x:Nat),let H:=List.take x l;let I:=(↑x:Int);let J:=A<=I/\I<C;let K:=Int.toNat I;x<=List.length l/\List.all H bY=true/\List.Nodup H→if decide (I<C)=true then J/\if (!bY (List.getD l K D))=true then E else (∃(x_1:Nat),(x_1<=Int.toNat I/\∀(k:Nat),k<x_1→List.getD l k []≠List.getD l K [])/\A=(↑x_1:Int)/\I=I/\F)/\∀(x_1:Nat),let L:=(↑x_1:Int);(x_1<=Int.toNat I/\∀(k:Nat),k<x_1→List.getD l k []≠List.getD l K [])→if decide (L<I)=true then (A<=L/\L<C)/\J/\if decide (List.getD l (Int.toNat L) D=List.getD l K D)=true then E else inR IntKind.i64 (L+G)/\∃(y:Nat),(y<=Int.toNat I/\∀(k:Nat),k<y→List.getD l k []≠List.getD l K [])/\Int.toNat I - y<Int.toNat I - x_1/\L+G=(↑y:Int)/\I=I/\F else inR IntKind.i64 (I+G)/\∃(y:Nat),let M:=List.take y l;(y<=List.length l/\List.all M bY=true/\List.Nodup M)/\List.length l - y<List.length l - x/\I+G=(↑y:Int)/\l=l/\B else B/\true=di l/\B:=by
 conv=>zeta
 have ln:=hl.len
 have dS:dfl Ty.str=([]:Str):=rfl
 simp only [Int.toNat_natCast,dS]
 refine ⟨⟨0,⟨Nat.zero_le _,by simp,by simp⟩,by repeat' (first | exact trivial | rfl | apply And.intro)⟩,?_⟩
 rintro i ⟨h1,h2,h3⟩
 refine a7 (fun h=>?_) (fun h=>?_)
 ·replace h:=Xo h
  have h:i < l.length:=by omega
  have hg:=iI l i [] h
  have hm:l.getD i []∈l:=fO l i [] h
  refine ⟨⟨by omega,by omega⟩,a7 (fun m=>?_) (fun m=>?_)⟩
  ·have m:bY (l.getD i [])=false:=by simpa using m
   refine ⟨trivial,?_,trivial⟩
   unfold di
   have:l.all bY=false:=by
    rw [List.all_eq_false]
    exact ⟨_,hm,by rw [m];simp⟩
   rw [this];rfl
  ·have m:bY (l.getD i [])=true:=by simpa using m
   refine ⟨⟨0,⟨Nat.zero_le _,fun k hk=>by omega⟩,by repeat' (first | exact trivial | rfl | apply And.intro)⟩,?_⟩
   rintro j ⟨j1,j2⟩
   refine a7 (fun q=>?_) (fun q=>?_)
   ·replace q:=Xo q
    have q:j < i:=by omega
    refine ⟨⟨by omega,by omega⟩,⟨by omega,by omega⟩,a7 (fun v=>?_) (fun v=>?_)⟩
    ·have v:=Xo v
     refine ⟨trivial,?_,trivial⟩
     unfold di
     have:¬l.Nodup:=fun nd=>by
      rw [dm _ _ _ h,dm _ _ _ (show j < l.length by omega)] at v
      exact (List.pairwise_iff_getElem.1 nd) j i (by omega) h q v
     rw [Xf this,Bool.and_false]
    ·have v:l.getD j []≠l.getD i []:=fun z=>v (Xd z)
     exact ⟨ak (by omega) (by omega),j+1,⟨by omega,fun k hk=>by
      rcases Nat.lt_or_ge k j with c | c
      ·exact j2 k c
      ·rw [show k=j by omega];exact v⟩,by omega,by omega,by repeat' (first | exact trivial | rfl | apply And.intro)⟩
   ·replace q:¬(j:Int) < (i:Int):=fun z=>q (Xd z)
    have q:j=i:=by omega
    subst q
    refine ⟨ak (by omega) (by omega),j+1,⟨by omega,by rw [hg,List.all_append,h2];simp only [List.all_cons,List.all_nil,m];rfl,?_⟩,by omega,by omega,by repeat' (first | exact trivial | rfl | apply And.intro)⟩
    rw [hg,List.nodup_append]
    refine ⟨h3,by simp,fun a ha b hb=>?_⟩
    rw [List.mem_singleton] at hb
    subst hb
    obtain ⟨k,hk,e⟩:=List.mem_iff_getElem.1 ha
    rw [List.length_take] at hk
    rw [List.getElem_take] at e
    have:=j2 k (by omega)
    rw [dm _ _ _ (show k < l.length by omega),e] at this
    exact this
 ·replace h:¬(i:Int) < (l.length:Int):=fun q=>h (Xd q)
  have h:i=l.length:=by omega
  subst h
  rw [List.take_length] at h2 h3
  refine ⟨trivial,?_,trivial⟩
  unfold di
  rw [h2,Xd h3];rfl
theorem wg (o:Opn) (ho:Wf (.st .op) o) :
  let A:=(0:Int);let B:=True;let C:=B/\false=bK o/\B;let D:=(1:Int);let E:=(↑(List.length o.names):Int);let F:=(↑(List.length o.tos):Int);let G:=B/\decide (F=A)=bK o/\B;let H:=if decide (E=A)=true then G else C;let I:=if decide (o.name=[])=true then H else C;let J:=if decide (A<=o.n)=true then I else C;let K:=if decide (o.n=A)=true then if bY o.name=true then H else C else C;let L:=if decide (o.n=A)=true then if eP o.name=true then H else C else C;if decide (o.pos<A)=true then C else if decide (o.kind<D)=true then C else if decide ((18:Int)<o.kind)=true then C else if decide (o.kind=D)=true then J else if decide (o.kind=(4:Int))=true then J else if decide (o.kind=(6:Int))=true then J else if decide (o.kind=(7:Int))=true then J else if decide (o.kind=(11:Int))=true then J else if decide (o.kind=(13:Int))=true then J else if decide (o.kind=(14:Int))=true then J else if decide (o.kind=(15:Int))=true then J else if decide (o.kind=(3:Int))=true then if decide (o.n=A)=true then I else if decide (o.n=D)=true then I else C else if decide (o.kind=(5:Int))=true then if decide (o.n=(110:Int))=true then I else C else if decide (o.kind=(2:Int))=true then if decide (o.n=A)=true then H else C else if decide (o.kind=(9:Int))=true then K else if decide (o.kind=(10:Int))=true then K else if decide (o.kind=(17:Int))=true then L else if decide (o.kind=(18:Int))=true then L else if decide (o.kind=(8:Int))=true then if decide (o.n=A)=true then if decide (o.name=[])=true then if di o.names=true then G else C else C else C else if decide (o.kind=(16:Int))=true then if decide (o.n=A)=true then if decide (o.name=[])=true then if di o.names=true then B/\decide (F=E)=bK o/\B else C else C else C else if decide (o.n=A)=true then I else C:=by
 conv=>zeta
 refine a7 (fun h=>?_) (fun h=>?_)
 ·rw [jP (.inl (Xo h))];exact ⟨trivial,rfl,trivial⟩
 replace h:¬o.pos < 0:=fun q=>h (Xd q)
 refine a7 (fun h2=>?_) (fun h2=>?_)
 ·rw [jP (.inr (.inl (Xo h2)))];exact ⟨trivial,rfl,trivial⟩
 replace h2:¬o.kind < 1:=fun q=>h2 (Xd q)
 refine a7 (fun h3=>?_) (fun h3=>?_)
 ·rw [jP (.inr (.inr (Xo h3)))];exact ⟨trivial,rfl,trivial⟩
 replace h3:¬18 < o.kind:=fun q=>h3 (Xd q)
 repeat' (first | exact trivial | rfl | refine a7 (fun _=>?_) (fun _=>?_) | refine And.intro ?_ ?_)
 all_goals (simp_all [bK,gU,is8,isB,isU,isR,toN] <;> first | omega | (intro hn;simp_all [di];done) | (rw [show o.kind=12 by omega];simp))
theorem zb (o:Opn) (s:Rstt) (b:Int)  :
  let A:=(1:Int);let B:=(0:Int);let C:=True;let D:=aK o s b;let E:=C/\s=D.1/\false=D.2/\C;let F:=true=D.1.known;let G:=s.things - B;let H:=IntKind.wrap IntKind.i64 (IntKind.wrap IntKind.i64 G+A)=D.1.things;let I:=true=D.2/\C;let J:=IntKind.wrap IntKind.i64 (s.names+A)=D.1.names/\I;let K:=C/\F/\H/\J;let L:=(↑(List.length o.names):Int);let M:=s.names=D.1.names/\I;let N:=C/\F/\H/\M;let O:=if decide (s.things<B)=true then E else if decide (o.kind=(12:Int))=true then K else if decide (o.kind=(16:Int))=true then if decide (B<L)=true then K else N else N;let P:=IntKind.wrap IntKind.i64 (IntKind.wrap IntKind.i64 (s.things - IntKind.wrap IntKind.i64 (o.n+A))+A)=D.1.things;let Q:=C/\F/\P/\J;let R:=C/\F/\P/\M;let S:=IntKind.wrap IntKind.i64 (IntKind.wrap IntKind.i64 (s.things - L)+A)=D.1.things;let T:=C/\F/\S/\J;let U:=C/\F/\S/\M;let V:=IntKind.wrap IntKind.i64 (IntKind.wrap IntKind.i64 (s.things - o.n)+A)=D.1.things;let W:=C/\F/\V/\J;let X:=C/\F/\V/\M;let Y:=s.things - A;let Z:=IntKind.wrap IntKind.i64 (IntKind.wrap IntKind.i64 Y+A)=D.1.things;let a:=C/\F/\Z/\J;let c:=C/\F/\Z/\M;let d:=if decide (s.things<A)=true then E else if decide (o.kind=(12:Int))=true then a else if decide (o.kind=(16:Int))=true then if decide (B<L)=true then a else c else c;let e:=IntKind.wrap IntKind.i64 (IntKind.wrap IntKind.i64 Y+B)=D.1.things;let f:=C/\F/\e/\J;let g:=C/\F/\e/\M;let h:=if decide (s.things<A)=true then E else if decide (o.kind=(12:Int))=true then f else if decide (o.kind=(16:Int))=true then if decide (B<L)=true then f else g else g;let i:=IntKind.wrap IntKind.i64 (IntKind.wrap IntKind.i64 G+B)=D.1.things;let j:=C/\F/\i/\J;let k:=C/\F/\i/\M;if decide (o.kind=A)=true then O else if decide (o.kind=(2:Int))=true then O else if decide (o.kind=(3:Int))=true then O else if decide (o.kind=(6:Int))=true then O else if decide (o.kind=(5:Int))=true then O else if decide (o.kind=(4:Int))=true then if decide (s.names<=o.n)=true then E else O else if decide (o.kind=(7:Int))=true then if decide (s.things<=o.n)=true then E else if decide (s.things<IntKind.wrap IntKind.i64 (o.n+A))=true then E else if decide (o.kind=(12:Int))=true then Q else if decide (o.kind=(16:Int))=true then if decide (B<L)=true then Q else R else R else if decide (o.kind=(8:Int))=true then if decide (s.things<L)=true then E else if decide (o.kind=(12:Int))=true then T else if decide (o.kind=(16:Int))=true then if decide (B<L)=true then T else U else U else if decide (o.kind=(11:Int))=true then if decide (s.things<o.n)=true then E else if decide (o.kind=(12:Int))=true then W else if decide (o.kind=(16:Int))=true then if decide (B<L)=true then W else X else X else if decide (o.kind=(9:Int))=true then d else if decide (o.kind=(10:Int))=true then d else if decide (o.kind=(17:Int))=true then d else if decide (o.kind=(18:Int))=true then d else if decide (o.kind=(16:Int))=true then if decide (L=B)=true then d else h else if decide (o.kind=(12:Int))=true then h else if decide (o.kind=(14:Int))=true then h else if decide (o.kind=(13:Int))=true then if decide (IntKind.wrap IntKind.i64 (s.names - b)<o.n)=true then E else C/\F/\s.things=D.1.things/\IntKind.wrap IntKind.i64 (s.names - o.n)=D.1.names/\I else if decide (s.things<B)=true then E else if decide (o.kind=(12:Int))=true then j else if decide (o.kind=(16:Int))=true then if decide (B<L)=true then j else k else k:=by
 conv=>zeta
 have dk:∀{a:Int},(decide (o.kind=a))=true→o.kind=a:=fun z=>Xo z
 refine a7 (fun z=>?_) (fun z1=>?_)
 ·have z:=dk z
  exact b6 (dz z) (fun y=>by omega) (fun y=>by omega) (by omega)
 refine a7 (fun z=>?_) (fun z2=>?_)
 ·have z:=dk z
  exact b6 (dz z) (fun y=>by omega) (fun y=>by omega) (by omega)
 refine a7 (fun z=>?_) (fun z3=>?_)
 ·have z:=dk z
  exact b6 (dz z) (fun y=>by omega) (fun y=>by omega) (by omega)
 refine a7 (fun z=>?_) (fun z6=>?_)
 ·have z:=dk z
  exact b6 (dz z) (fun y=>by omega) (fun y=>by omega) (by omega)
 refine a7 (fun z=>?_) (fun z5=>?_)
 ·have z:=dk z
  exact b6 (dz z) (fun y=>by omega) (fun y=>by omega) (by omega)
 refine a7 (fun z=>?_) (fun z4=>?_)
 ·have z:=dk z
  refine a7 (fun y=>?_) (fun y=>?_)
  ·have e:aK o s b=(s,false):=by unfold aK;rw [if_pos ⟨z,Xo y⟩]
   rw [e];exact ⟨trivial,rfl,rfl,trivial⟩
  ·exact b6 (dz z) (fun x=>y (Xd x.2)) (fun y=>by omega) (by omega)
 refine a7 (fun z=>?_) (fun z7=>?_)
 ·have z:=dk z
  refine a7 (fun y=>?_) (fun y=>?_)
  ·have e:aK o s b=(s,false):=by unfold aK;rw [if_neg (fun x=>by omega),if_pos ⟨z,Xo y⟩]
   rw [e];exact ⟨trivial,rfl,rfl,trivial⟩
  ·exact b6 (dz z) (fun y=>by omega) (fun x=>y (Xd x.2)) (by omega)
 refine a7 (fun z=>?_) (fun z8=>?_)
 ·have z:=dk z
  exact b6 (dz z) (fun y=>by omega) (fun y=>by omega) (by omega)
 refine a7 (fun z=>?_) (fun z11=>?_)
 ·have z:=dk z
  exact b6 (dz z) (fun y=>by omega) (fun y=>by omega) (by omega)
 refine a7 (fun z=>?_) (fun z9=>?_)
 ·have z:=dk z
  exact b6 (dz z) (fun y=>by omega) (fun y=>by omega) (by omega)
 refine a7 (fun z=>?_) (fun z10=>?_)
 ·have z:=dk z
  exact b6 (dz z) (fun y=>by omega) (fun y=>by omega) (by omega)
 refine a7 (fun z=>?_) (fun z17=>?_)
 ·have z:=dk z
  exact b6 (dz z) (fun y=>by omega) (fun y=>by omega) (by omega)
 refine a7 (fun z=>?_) (fun z18=>?_)
 ·have z:=dk z
  exact b6 (dz z) (fun y=>by omega) (fun y=>by omega) (by omega)
 refine a7 (fun z=>?_) (fun z16=>?_)
 ·have z:=dk z
  refine a7 (fun y=>?_) (fun y=>?_)
  ·exact b6 ((dz z).trans (if_pos (show o.names.length=0 by have:=Xo y;omega))) (fun y=>by omega) (fun y=>by omega) (by omega)
  ·exact b6 ((dz z).trans (if_neg (show ¬o.names.length=0 from fun x=>y (Xd (by omega))))) (fun y=>by omega) (fun y=>by omega) (by omega)
 refine a7 (fun z=>?_) (fun z12=>?_)
 ·have z:=dk z
  exact b6 (dz z) (fun y=>by omega) (fun y=>by omega) (by omega)
 refine a7 (fun z=>?_) (fun z14=>?_)
 ·have z:=dk z
  exact b6 (dz z) (fun y=>by omega) (fun y=>by omega) (by omega)
 refine a7 (fun z=>?_) (fun z13=>?_)
 ·have z:=dk z
  have e:aK o s b=if IntKind.i64.wrap (s.names - b) < o.n then (s,false) else (⟨true,s.things,IntKind.i64.wrap (s.names - o.n)⟩,true):=by unfold aK;rw [if_neg (fun x=>by omega),if_neg (fun x=>by omega),if_pos z]
  rw [e]
  refine a7 (fun y=>?_) (fun y=>?_)
  ·rw [if_pos (Xo y)];exact ⟨trivial,rfl,rfl,trivial⟩
  ·rw [if_neg (fun x=>y (Xd x))];exact ⟨trivial,rfl,rfl,rfl,rfl,trivial⟩
 have nk:∀{a:Int},¬(decide (o.kind=a))=true→¬o.kind=a:=fun z y=>z (Xd y)
 have e0:aY o=(0,0):=by
  unfold aY is6 is4 is2
  simp only [nk z1,nk z2,nk z3,nk z4,nk z5,nk z6,nk z7,nk z8,nk z9,nk z10,nk z11,nk z12,nk z14,nk z16,nk z17,nk z18,decide_false,Bool.or_self,Bool.false_eq_true,if_false]
 exact b6 e0 (fun y=>nk z4 y.1) (fun y=>nk z7 y.1) (nk z13)
theorem By (o:Opn) (i:Int)  :
  let A:=True;let B:=IntKind.wrap IntKind.i64 (i+(1:Int));let C:=A/\[B]=aZ o i/\A;if decide (o.kind=(15:Int))=true then A/\[o.n]=aZ o i/\A else if decide (o.kind=(14:Int))=true then A/\[o.n,B]=aZ o i/\A else if decide (o.kind=(16:Int))=true then if decide ((0:Int)<(↑(List.length o.tos):Int))=true then A/\o.tos=aZ o i/\A else C else C:=by
 conv=>zeta
 repeat' (first | exact trivial | rfl | refine a7 (fun _=>?_) (fun _=>?_) | refine And.intro ?_ ?_)
 all_goals (unfold aZ;simp_all)
 all_goals (intro z;have h:=‹0 < o.tos.length›;rw [z] at h;exact absurd h (by simp))
theorem zc (code:List Chnk) (k:Int) (bs:List Rstt) (n:Nat) (ho:CF code k bs n) :
  let A:=(0:Int);let B:=(↑(List.length code):Int);let C:=Int.toNat k;let D:=dfl (Ty.st SN.chunk);let E:=List.getD code C D;let F:=(↑(List.length E.ops):Int);let G:=(1:Int);let H:=F+G;let I:=(↑n:Int);let J:=A<=k/\k<I;let K:=(↑(Int.toNat H):Int);let L:=(List.replicate (Int.toNat H) {known:=false,things:=A,names:=A:Rstt});let M:=(1:Nat);let N:=aG code k;let O:=cO code k;let P:=code=code;let Q:=k=k;let R:=n=n;let S:=E.ops=E.ops;let T:=Int.toNat H=Int.toNat H;let U:=dfl (Ty.st SN.rstt);let V:=True;let W:=ck code k bs;let X:=false=W.1;let Y:=dfl (Ty.st SN.op);let Z:=true=true;let a:=false=false;let b:=A=A;let c:=dfl (Ty.int IntKind.i64);let d:=Int.toNat F;(A<=k/\k<B)/\inR IntKind.i64 H/\(A<=F+G/\F+G<=F+G/\H*(↑(24:Nat):Int)<=(140737488355328:Int))/\J/\Int.toNat k<List.length bs/\(A<=A/\A<K)/\Int.toNat A<List.length L/\(∃(x:Nat × List Rstt × List Rstt),(x.1<=aG code k/\List.length x.2.1=aG code k+M/\List.length x.2.2=List.length code/\ky code k N (List.drop x.1 O.ops) x.1 x.2.1 x.2.2=ck code k bs)/\A=(↑x.1:Int)/\P/\Q/\R/\S/\T/\List.set L (Int.toNat A) (List.getD bs C U)=x.2.1/\bs=x.2.2/\V)/\∀(x:Nat × List Rstt × List Rstt),let e:=(↑x.1:Int);let f:=A<=e/\e<K;let g:=Int.toNat e<List.length x.2.1;let h:=Int.toNat e;let i:=List.getD x.2.1 h U;let j:=x.2.2=W.2/\V;let l:=V/\X/\j;let m:=List.getD E.ops h Y;let o:=Int.toNat k<List.length x.2.2;let p:=List.getD x.2.2 C U;let q:=aK m i p.names;let r:=A<=m.n/\m.n<I;let s:=Int.toNat m.n<List.length x.2.2;let t:=Int.toNat m.n;let u:=List.getD x.2.2 t U;let v:=i.names+(List.getD code t D).args;let w:=aZ m e;let z:=e=e;let A0:=q.2=q.2;let A1:=aZ m e=aZ m e;let A2:=List.getD E.ops h Y=List.getD E.ops h Y;let A3:=List.set x.2.2 t {known:=true,things:=A,names:=IntKind.wrap IntKind.i64 v:Rstt}=List.set x.2.2 t {known:=true,things:=A,names:=IntKind.wrap IntKind.i64 v:Rstt}/\A2/\q.1=q.1/\Z/\b/\IntKind.wrap IntKind.i64 v=IntKind.wrap IntKind.i64 v/\V;let A4:=(↑(List.length w):Int);let A5:=V/\X/\List.set x.2.2 t {known:=true,things:=A,names:=IntKind.wrap IntKind.i64 v:Rstt}=W.2/\V;let A6:=inR IntKind.i64 (e+G);let A7:=r/\s/\(∃(x_1:Nat × List Rstt),(x_1.1<=List.length w/\List.length x_1.2=aG code k+M/\cw e N q.1 (List.drop x_1.1 w) x_1.2=cw e N q.1 w x.2.1)/\A=(↑x_1.1:Int)/\z/\P/\Q/\R/\S/\T/\Z/\a/\A0/\a/\Z/\a/\a/\A1/\x.2.1=x_1.2/\A3)/\∀(x_1:Nat × List Rstt),let B0:=(↑x_1.1:Int);let B1:=A<=B0/\B0<A4;let B2:=Int.toNat B0;let B3:=A<=List.getD w B2 c/\List.getD w B2 c<K;let B4:=List.getD w B2 c;let B5:=Int.toNat B4<List.length x_1.2;let B6:=List.getD x_1.2 (Int.toNat B4) U;let B7:=B1/\B3/\B5/\inR IntKind.i64 (B0+G)/\∃(y:Nat × List Rstt),(y.1<=List.length w/\List.length y.2=aG code k+M/\cw e N q.1 (List.drop y.1 w) y.2=cw e N q.1 w x.2.1)/\List.length w - y.1<List.length w - x_1.1/\B0+G=(↑y.1:Int)/\z/\P/\Q/\R/\S/\T/\Z/\a/\A0/\a/\Z/\a/\a/\A1/\List.set x_1.2 (Int.toNat B4) q.1=y.2/\A3;x_1.1<=List.length w/\List.length x_1.2=aG code k+M/\cw e N q.1 (List.drop x_1.1 w) x_1.2=cw e N q.1 w x.2.1→if decide (B0<A4)=true then B1/\if decide (List.getD w B2 c<=e)=true then A5 else B1/\if decide (F<List.getD w B2 c)=true then A5 else B1/\B3/\B5/\if B6.known=true then B1/\B3/\B5/\if (!(B6.known==q.1.known && (decide (B6.things=q.1.things) && (decide (B6.names=q.1.names) && true))))=true then A5 else B7 else B7 else A6/\∃(y:Nat × List Rstt × List Rstt),(y.1<=aG code k/\List.length y.2.1=aG code k+M/\List.length y.2.2=List.length code/\ky code k N (List.drop y.1 O.ops) y.1 y.2.1 y.2.2=ck code k bs)/\aG code k - y.1<aG code k - x.1/\e+G=(↑y.1:Int)/\P/\Q/\R/\S/\T/\x_1.2=y.2.1/\List.set x.2.2 t {known:=true,things:=A,names:=IntKind.wrap IntKind.i64 v:Rstt}=y.2.2/\V;let A8:=x.2.2=x.2.2/\A2/\q.1=q.1/\V;let A9:=List.getD x.2.1 d U;x.1<=aG code k/\List.length x.2.1=aG code k+M/\List.length x.2.2=List.length code/\ky code k N (List.drop x.1 O.ops) x.1 x.2.1 x.2.2=ck code k bs→if decide (e<F)=true then (A<=e/\e<F)/\f/\g/\if (!i.known)=true then l else if (!bK m)=true then l else f/\g/\J/\o/\(V/\V)/\if (!q.2)=true then l else if decide (m.kind=(6:Int))=true then if decide (m.n<=k)=true then l else if decide (B<=m.n)=true then l else f/\g/\(A<=m.n/\m.n<B)/\r/\s/\if u.known=true then r/\s/\if (!(u.known==true && (decide (u.things=A) && (decide (u.names=IntKind.wrap IntKind.i64 v) && true))))=true then l else A7 else A7 else (∃(x_1:Nat × List Rstt),(x_1.1<=List.length w/\List.length x_1.2=aG code k+M/\cw e N q.1 (List.drop x_1.1 w) x_1.2=cw e N q.1 w x.2.1)/\A=(↑x_1.1:Int)/\z/\P/\Q/\R/\S/\T/\Z/\a/\A0/\a/\a/\A1/\x.2.1=x_1.2/\A8)/\∀(x_1:Nat × List Rstt),let B0:=(↑x_1.1:Int);let B1:=A<=B0/\B0<A4;let B2:=Int.toNat B0;let B3:=A<=List.getD w B2 c/\List.getD w B2 c<K;let B4:=List.getD w B2 c;let B5:=Int.toNat B4<List.length x_1.2;let B6:=List.getD x_1.2 (Int.toNat B4) U;let B7:=B1/\B3/\B5/\inR IntKind.i64 (B0+G)/\∃(y:Nat × List Rstt),(y.1<=List.length w/\List.length y.2=aG code k+M/\cw e N q.1 (List.drop y.1 w) y.2=cw e N q.1 w x.2.1)/\List.length w - y.1<List.length w - x_1.1/\B0+G=(↑y.1:Int)/\z/\P/\Q/\R/\S/\T/\Z/\a/\A0/\a/\a/\A1/\List.set x_1.2 (Int.toNat B4) q.1=y.2/\A8;x_1.1<=List.length w/\List.length x_1.2=aG code k+M/\cw e N q.1 (List.drop x_1.1 w) x_1.2=cw e N q.1 w x.2.1→if decide (B0<A4)=true then B1/\if decide (List.getD w B2 c<=e)=true then l else B1/\if decide (F<List.getD w B2 c)=true then l else B1/\B3/\B5/\if B6.known=true then B1/\B3/\B5/\if (!(B6.known==q.1.known && (decide (B6.things=q.1.things) && (decide (B6.names=q.1.names) && true))))=true then l else B7 else B7 else A6/\∃(y:Nat × List Rstt × List Rstt),(y.1<=aG code k/\List.length y.2.1=aG code k+M/\List.length y.2.2=List.length code/\ky code k N (List.drop y.1 O.ops) y.1 y.2.1 y.2.2=ck code k bs)/\aG code k - y.1<aG code k - x.1/\e+G=(↑y.1:Int)/\P/\Q/\R/\S/\T/\x_1.2=y.2.1/\
  x.2.2=y.2.2/\V else (A<=F/\F<K)/\Int.toNat F<List.length x.2.1/\if A9.known=true then if decide (A9.things=G)=true then J/\o/\V/\decide (A9.names=p.names)=W.1/\j else l else l:=by
 conv=>zeta
 obtain ⟨h1,h2,h3,h4,h5,h6⟩:=ho
 subst h4
 have dC:dfl (Ty.st SN.chunk)=(default:Chnk):=rfl
 have dS:dfl (Ty.st SN.rstt)=(default:Rstt):=rfl
 have dO:dfl (Ty.st SN.op)=(default:Opn):=rfl
 have dI:dfl (Ty.int IntKind.i64)=(0:Int):=rfl
 have dA:(code.getD k.toNat default).ops=(cO code k).ops:=rfl
 have dN:(cO code k).ops.length=aG code k:=rfl
 have tN:(((aG code k:Nat):Int)+1).toNat=aG code k+1:=by omega
 have z0:(0:Int).toNat=0:=rfl
 have hb:∀x y:Rstt,((x.known ==y.known) && (decide (x.things=y.things) && (decide (x.names=y.names) && true)))=eqR x y:=fun x y=>by unfold eqR;simp only [Bool.and_true,Bool.and_assoc]
 simp only [dC,dS,dO,dI,dA,dN,tN,z0,Int.toNat_natCast,hb]
 have ln:=h6.len
 have cN:((aG code k+1:Nat):Int)=(aG code k:Int)+1:=by omega
 refine ⟨⟨h1,h2⟩,ak (by omega) (by omega),⟨by omega,by omega,by show ((aG code k:Int)+1) *24<=_;omega⟩,⟨h1,h2⟩,by omega,⟨by omega,by omega⟩,by simp only [List.length_replicate];omega,⟨(0,nv (aG code k+1) (bs.getD k.toNat default),bs),⟨Nat.zero_le _,by unfold nv;simp,h3,rfl⟩,by repeat' (first | exact trivial | rfl | apply And.intro)⟩,?_⟩
 rintro ⟨i,l,b⟩ ⟨i1,i2,i3,i4⟩
 simp only at i1 i2 i3 i4 ⊢
 have og:=i4
 generalize hcF:ck code k bs=cf at *
 generalize hN:aG code k=N at *
 refine a7 (fun q=>?_) (fun q=>?_)
 ·replace q:=Xo q
  have q0:i < N:=by omega
  have qi:i < (cO code k).ops.length:=by omega
  rw [bR (cO code k).ops i (default:Opn) qi] at i4
  have hwf:Wf (.st .op) ((cO code k).ops.getD i default):=Wf.mem (h6.mem (fO code k.toNat default (by omega))).chunk_ops (fO _ i default qi)
  have hW:=yO ((cO code k).ops.getD i default) i hwf.op_tos.len
  generalize (cO code k).ops.getD i (default:Opn)=O at *
  rw [ky] at i4
  have ref:gE code k i O l b=true→cf=(false,b):=fun z=>by rw [if_pos z] at i4;exact i4.symm
  unfold rbs at i4
  refine ⟨⟨by omega,by omega⟩,⟨by omega,by omega⟩,by omega,a7 (fun m=>?_) (fun m=>?_)⟩
  ·rw [ref (by unfold gE;rw [m];rfl)];exact ⟨trivial,rfl,rfl,trivial⟩
  have m:(l.getD i default).known=true:=by simpa using m
  refine a7 (fun m2=>?_) (fun m2=>?_)
  ·rw [ref (by unfold gE;rw [m2];simp)];exact ⟨trivial,rfl,rfl,trivial⟩
  have m2:bK O=true:=by simpa using m2
  refine ⟨⟨by omega,by omega⟩,by omega,⟨h1,h2⟩,by omega,⟨trivial,trivial⟩,a7 (fun m3=>?_) (fun m3=>?_)⟩
  ·rw [ref (by unfold gE;rw [m3];simp)];exact ⟨trivial,rfl,rfl,trivial⟩
  have m3:(aK O (l.getD i default) (b.getD k.toNat default).names).2=true:=by simpa using m3
  have rb:gE code k i O l b=(decide (O.kind=6) && (decide (O.n<=k) || decide ((code.length:Int)<=O.n) || ((b.getD O.n.toNat default).known && !eqR (b.getD O.n.toNat default) (iJ code O (l.getD i default))))):=by unfold gE;rw [m,m2,m3];rfl
  rw [rb] at i4 ref
  clear rb m m2 m3
  generalize (aK O (l.getD i default) (b.getD k.toNat default).names).1=st at *
  generalize (aK O (l.getD i default) (b.getD k.toNat default).names).2=sb at *
  generalize aZ O (i:Int)=W at *
  generalize l.getD i default=S at *
  have rc:(⟨true,0,IntKind.i64.wrap (S.names+(code.getD O.n.toNat default).args)⟩:Rstt)=iJ code O S:=rfl
  refine a7 (fun K=>?_) (fun K=>?_)
  ·have K:=Xo K
   rw [Xd K,Bool.true_and] at i4 ref
   rw [if_pos K] at i4
   refine a7 (fun y=>?_) (fun y=>?_)
   ·rw [ref (by rw [y];rfl)];exact ⟨trivial,rfl,rfl,trivial⟩
   have y:decide (O.n<=k)=false:=by simpa using y
   refine a7 (fun w=>?_) (fun w=>?_)
   ·rw [ref (by rw [w];simp)];exact ⟨trivial,rfl,rfl,trivial⟩
   have w:decide ((code.length:Int)<=O.n)=false:=by simpa using w
   rw [y,w,Bool.false_or,Bool.false_or] at i4 ref
   have y':=of_decide_eq_false y
   have w':=of_decide_eq_false w
   refine ⟨⟨by omega,by omega⟩,by omega,⟨by omega,by omega⟩,⟨by omega,by omega⟩,by omega,a7 (fun v=>?_) (fun v=>?_)⟩
   ·have hq:(((b.getD O.n.toNat default).known ==true) && (decide ((b.getD O.n.toNat default).things=0) && (decide ((b.getD O.n.toNat default).names=IntKind.i64.wrap (S.names+(code.getD O.n.toNat default).args)) && true)))=eqR (b.getD O.n.toNat default) (iJ code O S):=hb _ (iJ code O S)
    rw [hq]
    refine ⟨⟨by omega,by omega⟩,by omega,a7 (fun u=>?_) (fun u=>?_)⟩
    ·have u:eqR (b.getD O.n.toNat default) (iJ code O S)=false:=by simpa using u
     rw [ref (by rw [v,u];rfl)];exact ⟨trivial,rfl,rfl,trivial⟩
    have u:eqR (b.getD O.n.toNat default) (iJ code O S)=true:=by simpa using u
    rw [u,Bool.not_true,Bool.and_false,if_neg (fun z=>by cases z)] at i4
    have hcf:=i4
    clear i4 ref og
    refine ⟨⟨by omega,by omega⟩,by omega,?_⟩
    rw [←rc] at hcf
    refine ⟨⟨(0,l),⟨Nat.zero_le _,i2,by rw [List.drop_zero]⟩,by repeat' (first | exact trivial | rfl | apply And.intro)⟩,?_⟩
    rintro ⟨j,a⟩ ⟨j1,j2,j3⟩
    simp only at j1 j2 j3 ⊢
    refine a7 (fun q=>?_) (fun q=>?_)
    ·replace q:=Xo q
     have q:j < W.length:=by omega
     rw [bR W j (0:Int) q] at j3
     generalize W.getD j (0:Int)=t at *
     have bad:t<=(i:Int)∨(N:Int) < t∨(a.getD t.toNat default).known=true/\eqR (a.getD t.toNat default) st=false→cf=(false,(b.set O.n.toNat ⟨true,0,IntKind.i64.wrap (S.names+(code.getD O.n.toNat default).args)⟩)):=fun z=>by
      rw [show cw i N st (t ::W.drop (j+1)) a=(false,a) by rw [cw,if_pos z]] at j3
      rw [←hcf,←j3,if_neg (fun z=>by cases z)]
     have go:¬t<=(i:Int)→¬(N:Int) < t→¬((a.getD t.toNat default).known=true/\eqR (a.getD t.toNat default) st=false)→cw i N st (W.drop (j+1)) (a.set t.toNat st)=cw i N st W l:=fun y1 y2 y3=>by
      rw [←j3,show cw i N st (t ::W.drop (j+1)) a=cw i N st (W.drop (j+1)) (a.set t.toNat st) by rw [cw,if_neg (fun z=>z.elim y1 (fun z=>z.elim y2 y3))]]
     refine ⟨⟨by omega,by omega⟩,a7 (fun z=>?_) (fun z=>?_)⟩
     ·rw [bad (.inl (Xo z))];exact ⟨trivial,rfl,rfl,trivial⟩
     have t1:¬t<=(i:Int):=fun y=>z (Xd y)
     refine ⟨⟨by omega,by omega⟩,a7 (fun z=>?_) (fun z=>?_)⟩
     ·rw [bad (.inr (.inl (Xo z)))];exact ⟨trivial,rfl,rfl,trivial⟩
     have t2:¬(N:Int) < t:=fun y=>z (Xd y)
     refine ⟨⟨by omega,by omega⟩,⟨by omega,by omega⟩,by omega,a7 (fun z=>?_) (fun z=>?_)⟩
     ·refine ⟨⟨by omega,by omega⟩,⟨by omega,by omega⟩,by omega,a7 (fun y=>?_) (fun y=>?_)⟩
      ·have y:eqR (a.getD t.toNat default) st=false:=by simpa using y
       rw [bad (.inr (.inr ⟨z,y⟩))];exact ⟨trivial,rfl,rfl,trivial⟩
      ·have y:eqR (a.getD t.toNat default) st=true:=by simpa using y
       exact ⟨⟨by omega,by omega⟩,⟨by omega,by omega⟩,by omega,ak (by omega) (by omega),(j+1,a.set t.toNat st),⟨q,by rw [List.length_set];exact j2,go t1 t2 (fun x=>by rw [y] at x;cases x.2)⟩,by simp only;omega,by simp only;omega,by repeat' (first | exact trivial | rfl | apply And.intro)⟩
     ·exact ⟨⟨by omega,by omega⟩,⟨by omega,by omega⟩,by omega,ak (by omega) (by omega),(j+1,a.set t.toNat st),⟨q,by rw [List.length_set];exact j2,go t1 t2 (fun x=>z x.1)⟩,by simp only;omega,by simp only;omega,by repeat' (first | exact trivial | rfl | apply And.intro)⟩
    ·replace q:¬(j:Int) < (W.length:Int):=fun y=>q (Xd y)
     rw [List.drop_eq_nil_of_le (by omega)] at j3
     rw [←j3,cw,if_pos rfl] at hcf
     exact ⟨ak (by omega) (by omega),(i+1,a,(b.set O.n.toNat ⟨true,0,IntKind.i64.wrap (S.names+(code.getD O.n.toNat default).args)⟩)),⟨q0,j2,by rw [List.length_set];exact i3,hcf⟩,by simp only;omega,by simp only;omega,by repeat' (first | exact trivial | rfl | apply And.intro)⟩
   ·have v:(b.getD O.n.toNat default).known=false:=by simpa using v
    rw [v,Bool.false_and,if_neg (fun z=>by cases z)] at i4
    have hcf:=i4
    clear i4 ref og
    refine ⟨⟨by omega,by omega⟩,by omega,?_⟩
    rw [←rc] at hcf
    refine ⟨⟨(0,l),⟨Nat.zero_le _,i2,by rw [List.drop_zero]⟩,by repeat' (first | exact trivial | rfl | apply And.intro)⟩,?_⟩
    rintro ⟨j,a⟩ ⟨j1,j2,j3⟩
    simp only at j1 j2 j3 ⊢
    refine a7 (fun q=>?_) (fun q=>?_)
    ·replace q:=Xo q
     have q:j < W.length:=by omega
     rw [bR W j (0:Int) q] at j3
     generalize W.getD j (0:Int)=t at *
     have bad:t<=(i:Int)∨(N:Int) < t∨(a.getD t.toNat default).known=true/\eqR (a.getD t.toNat default) st=false→cf=(false,(b.set O.n.toNat ⟨true,0,IntKind.i64.wrap (S.names+(code.getD O.n.toNat default).args)⟩)):=fun z=>by
      rw [show cw i N st (t ::W.drop (j+1)) a=(false,a) by rw [cw,if_pos z]] at j3
      rw [←hcf,←j3,if_neg (fun z=>by cases z)]
     have go:¬t<=(i:Int)→¬(N:Int) < t→¬((a.getD t.toNat default).known=true/\eqR (a.getD t.toNat default) st=false)→cw i N st (W.drop (j+1)) (a.set t.toNat st)=cw i N st W l:=fun y1 y2 y3=>by
      rw [←j3,show cw i N st (t ::W.drop (j+1)) a=cw i N st (W.drop (j+1)) (a.set t.toNat st) by rw [cw,if_neg (fun z=>z.elim y1 (fun z=>z.elim y2 y3))]]
     refine ⟨⟨by omega,by omega⟩,a7 (fun z=>?_) (fun z=>?_)⟩
     ·rw [bad (.inl (Xo z))];exact ⟨trivial,rfl,rfl,trivial⟩
     have t1:¬t<=(i:Int):=fun y=>z (Xd y)
     refine ⟨⟨by omega,by omega⟩,a7 (fun z=>?_) (fun z=>?_)⟩
     ·rw [bad (.inr (.inl (Xo z)))];exact ⟨trivial,rfl,rfl,trivial⟩
     have t2:¬(N:Int) < t:=fun y=>z (Xd y)
     refine ⟨⟨by omega,by omega⟩,⟨by omega,by omega⟩,by omega,a7 (fun z=>?_) (fun z=>?_)⟩
     ·refine ⟨⟨by omega,by omega⟩,⟨by omega,by omega⟩,by omega,a7 (fun y=>?_) (fun y=>?_)⟩
      ·have y:eqR (a.getD t.toNat default) st=false:=by simpa using y
       rw [bad (.inr (.inr ⟨z,y⟩))];exact ⟨trivial,rfl,rfl,trivial⟩
      ·have y:eqR (a.getD t.toNat default) st=true:=by simpa using y
       exact ⟨⟨by omega,by omega⟩,⟨by omega,by omega⟩,by omega,ak (by omega) (by omega),(j+1,a.set t.toNat st),⟨q,by rw [List.length_set];exact j2,go t1 t2 (fun x=>by rw [y] at x;cases x.2)⟩,by simp only;omega,by simp only;omega,by repeat' (first | exact trivial | rfl | apply And.intro)⟩
     ·exact ⟨⟨by omega,by omega⟩,⟨by omega,by omega⟩,by omega,ak (by omega) (by omega),(j+1,a.set t.toNat st),⟨q,by rw [List.length_set];exact j2,go t1 t2 (fun x=>z x.1)⟩,by simp only;omega,by simp only;omega,by repeat' (first | exact trivial | rfl | apply And.intro)⟩
    ·replace q:¬(j:Int) < (W.length:Int):=fun y=>q (Xd y)
     rw [List.drop_eq_nil_of_le (by omega)] at j3
     rw [←j3,cw,if_pos rfl] at hcf
     exact ⟨ak (by omega) (by omega),(i+1,a,(b.set O.n.toNat ⟨true,0,IntKind.i64.wrap (S.names+(code.getD O.n.toNat default).args)⟩)),⟨q0,j2,by rw [List.length_set];exact i3,hcf⟩,by simp only;omega,by simp only;omega,by repeat' (first | exact trivial | rfl | apply And.intro)⟩
  ·have K:¬O.kind=6:=fun z=>K (Xd z)
   rw [Xf K,Bool.false_and,if_neg (fun z=>by cases z),if_neg K] at i4
   have hcf:=i4
   clear i4 ref og
   refine ⟨⟨(0,l),⟨Nat.zero_le _,i2,by rw [List.drop_zero]⟩,by repeat' (first | exact trivial | rfl | apply And.intro)⟩,?_⟩
   rintro ⟨j,a⟩ ⟨j1,j2,j3⟩
   simp only at j1 j2 j3 ⊢
   refine a7 (fun q=>?_) (fun q=>?_)
   ·replace q:=Xo q
    have q:j < W.length:=by omega
    rw [bR W j (0:Int) q] at j3
    generalize W.getD j (0:Int)=t at *
    have bad:t<=(i:Int)∨(N:Int) < t∨(a.getD t.toNat default).known=true/\eqR (a.getD t.toNat default) st=false→cf=(false,b):=fun z=>by
     rw [show cw i N st (t ::W.drop (j+1)) a=(false,a) by rw [cw,if_pos z]] at j3
     rw [←hcf,←j3,if_neg (fun z=>by cases z)]
    have go:¬t<=(i:Int)→¬(N:Int) < t→¬((a.getD t.toNat default).known=true/\eqR (a.getD t.toNat default) st=false)→cw i N st (W.drop (j+1)) (a.set t.toNat st)=cw i N st W l:=fun y1 y2 y3=>by
     rw [←j3,show cw i N st (t ::W.drop (j+1)) a=cw i N st (W.drop (j+1)) (a.set t.toNat st) by rw [cw,if_neg (fun z=>z.elim y1 (fun z=>z.elim y2 y3))]]
    refine ⟨⟨by omega,by omega⟩,a7 (fun z=>?_) (fun z=>?_)⟩
    ·rw [bad (.inl (Xo z))];exact ⟨trivial,rfl,rfl,trivial⟩
    have t1:¬t<=(i:Int):=fun y=>z (Xd y)
    refine ⟨⟨by omega,by omega⟩,a7 (fun z=>?_) (fun z=>?_)⟩
    ·rw [bad (.inr (.inl (Xo z)))];exact ⟨trivial,rfl,rfl,trivial⟩
    have t2:¬(N:Int) < t:=fun y=>z (Xd y)
    refine ⟨⟨by omega,by omega⟩,⟨by omega,by omega⟩,by omega,a7 (fun z=>?_) (fun z=>?_)⟩
    ·refine ⟨⟨by omega,by omega⟩,⟨by omega,by omega⟩,by omega,a7 (fun y=>?_) (fun y=>?_)⟩
     ·have y:eqR (a.getD t.toNat default) st=false:=by simpa using y
      rw [bad (.inr (.inr ⟨z,y⟩))];exact ⟨trivial,rfl,rfl,trivial⟩
     ·have y:eqR (a.getD t.toNat default) st=true:=by simpa using y
      exact ⟨⟨by omega,by omega⟩,⟨by omega,by omega⟩,by omega,ak (by omega) (by omega),(j+1,a.set t.toNat st),⟨q,by rw [List.length_set];exact j2,go t1 t2 (fun x=>by rw [y] at x;cases x.2)⟩,by simp only;omega,by simp only;omega,by repeat' (first | exact trivial | rfl | apply And.intro)⟩
    ·exact ⟨⟨by omega,by omega⟩,⟨by omega,by omega⟩,by omega,ak (by omega) (by omega),(j+1,a.set t.toNat st),⟨q,by rw [List.length_set];exact j2,go t1 t2 (fun x=>z x.1)⟩,by simp only;omega,by simp only;omega,by repeat' (first | exact trivial | rfl | apply And.intro)⟩
   ·replace q:¬(j:Int) < (W.length:Int):=fun y=>q (Xd y)
    rw [List.drop_eq_nil_of_le (by omega)] at j3
    rw [←j3,cw,if_pos rfl] at hcf
    exact ⟨ak (by omega) (by omega),(i+1,a,b),⟨q0,j2,i3,hcf⟩,by simp only;omega,by simp only;omega,by repeat' (first | exact trivial | rfl | apply And.intro)⟩
 ·replace q:¬(i:Int) < (N:Int):=fun z=>q (Xd z)
  have q:i=N:=by omega
  subst q
  rw [List.drop_eq_nil_of_le (by omega),ky] at i4
  rw [←i4]
  refine ⟨⟨by omega,by omega⟩,by omega,a7 (fun v=>?_) (fun v=>?_)⟩
  ·refine a7 (fun u=>?_) (fun u=>?_)
   ·refine ⟨⟨h1,h2⟩,by omega,trivial,?_,rfl,trivial⟩
    rw [v,u];rfl
   ·have u:decide ((l.getD i default).things=1)=false:=by simpa using u
    rw [v,u];exact ⟨trivial,rfl,rfl,trivial⟩
  ·have v:(l.getD i default).known=false:=by simpa using v
   rw [v];exact ⟨trivial,rfl,rfl,trivial⟩
theorem wh (l:List Chnk) (n:Int) (hl:Wf (.lst (.st .chunk)) l) :
  let A:=(0:Int);let B:=True;let C:=B/\(310:Int)=ib l n/\B;let D:=List.length l;let E:=(↑D:Int);let F:=(4096:Int);let G:=dfl (Ty.st SN.chunk);let H:=(4096:Nat);let I:=false=false;let J:=l=l/\n=n/\I/\B;let K:=(1:Int);let L:=Int.toNat E;let M:=(List.replicate L {known:=false,things:=A,names:=A:Rstt});let N:=(0:Nat);let O:=(nv D {known:=true,things:=A,names:=n:Rstt});let P:=Int.toNat E=Int.toNat E;if decide (n<A)=true then C else if decide ((1000000:Int)<n)=true then C else if decide (E=A)=true then C else if decide (F<E)=true then C else (A<=A/\A<E)/\if (!decide ((List.getD l (Int.toNat A) G).args=A))=true then C else (∃(x:Nat × Nat),let Q:=(↑x.2:Int);(x.1<=List.length l/\bw (List.drop x.1 l) Q=bw l A/\x.2<=H/\∀(c:Chnk),c∈List.take x.1 l→List.length c.ops<=H)/\A=(↑x.1:Int)/\A=Q/\J)/\∀(x:Nat × Nat),let Q:=(↑x.2:Int);let R:=(↑x.1:Int);let S:=A<=R/\R<E;let T:=List.getD l (Int.toNat R) G;let U:=(↑(List.length T.ops):Int);(x.1<=List.length l/\bw (List.drop x.1 l) Q=bw l A/\x.2<=H/\∀(c:Chnk),c∈List.take x.1 l→List.length c.ops<=H)→if decide (R<E)=true then S/\if decide (T.args<A)=true then C else S/\if decide (F<T.args)=true then C else S/\if decide (F<U)=true then C else S/\inR IntKind.i64 (Q+U)/\if decide (F<Q+U)=true then C else inR IntKind.i64 (R+K)/\∃(y:Nat × Nat),let V:=(↑y.2:Int);(y.1<=List.length l/\bw (List.drop y.1 l) V=bw l A/\y.2<=H/\∀(c:Chnk),c∈List.take y.1 l→List.length c.ops<=H)/\List.length l - y.1<List.length l - x.1/\R+K=(↑y.1:Int)/\Q+U=V/\J else (A<=E/\E<=E/\E*(↑(24:Nat):Int)<=(140737488355328:Int))/\(A<=A/\A<(↑L:Int))/\Int.toNat A<List.length M/\(∃(x_1:Nat × List Rstt),(x_1.1<=List.length l/\List.length x_1.2=List.length l/\gG l (List.length l - x_1.1) x_1.1 x_1.2=gG l D N O)/\A=(↑x_1.1:Int)/\R=R/\Q=Q/\l=l/\n=n/\I/\I/\P/\List.set M (Int.toNat A) {known:=true,things:=A,names:=n:Rstt}=x_1.2/\B)/\∀(x_1:Nat × List Rstt),let V:=(↑x_1.1:Int);let W:=ck l V x_1.2;x_1.1<=List.length l/\List.length x_1.2=List.length l/\gG l (List.length l - x_1.1) x_1.1 x_1.2=gG l D N O→if decide (V<E)=true then (A<=V/\V<(↑L:Int))/\Int.toNat V<List.length x_1.2/\if (!(List.getD x_1.2 (Int.toNat V) (dfl (Ty.st SN.rstt))).known)=true then C else CF l V x_1.2 L/\if (!W.1)=true then C else inR IntKind.i64 (V+K)/\∃(y:Nat × List Rstt),(y.1<=List.length l/\List.length y.2=List.length l/\gG l (List.length l - y.1) y.1 y.2=gG l D N O)/\List.length l - y.1<List.length l - x_1.1/\V+K=(↑y.1:Int)/\R=R/\Q=Q/\l=l/\n=n/\I/\I/\P/\W.2=y.2/\B else B/\A=ib l n/\B:=by
 conv=>zeta
 have ln:=hl.len
 have dC:dfl (Ty.st SN.chunk)=(default:Chnk):=rfl
 have dR:dfl (Ty.st SN.rstt)=(default:Rstt):=rfl
 have z0:(0:Int).toNat=0:=rfl
 rw [←CE (code:=l) (scope:=n) (fun c hc o ho=>⟨(Wf.mem (Wf.mem hl hc).chunk_ops ho).op_n.2,(Wf.mem (Wf.mem hl hc).chunk_ops ho).op_names.len⟩)]
 simp only [Int.toNat_natCast,dC,dR,z0]
 have bad1:n < 0∨1000000 < n∨l.length=0∨4096 < l.length∨(l.getD 0 default).args≠0→pT l n=310:=fun h=>by unfold pT;rw [if_pos h]
 refine a7 (fun h=>?_) (fun h=>?_)
 ·rw [bad1 (.inl (Xo h))];exact ⟨trivial,rfl,trivial⟩
 replace h:¬n < 0:=fun q=>h (Xd q)
 refine a7 (fun h2=>?_) (fun h2=>?_)
 ·rw [bad1 (.inr (.inl (Xo h2)))];exact ⟨trivial,rfl,trivial⟩
 replace h2:¬1000000 < n:=fun q=>h2 (Xd q)
 refine a7 (fun h3=>?_) (fun h3=>?_)
 ·replace h3:=Xo h3
  rw [bad1 (.inr (.inr (.inl (by omega))))];exact ⟨trivial,rfl,trivial⟩
 replace h3:¬(l.length:Int)=0:=fun q=>h3 (Xd q)
 refine a7 (fun h4=>?_) (fun h4=>?_)
 ·replace h4:=Xo h4
  rw [bad1 (.inr (.inr (.inr (.inl (by omega)))))];exact ⟨trivial,rfl,trivial⟩
 replace h4:¬4096 < (l.length:Int):=fun q=>h4 (Xd q)
 refine ⟨⟨by omega,by omega⟩,a7 (fun h5=>?_) (fun h5=>?_)⟩
 ·have h5:¬(l.getD 0 default).args=0:=by simpa using h5
  rw [bad1 (.inr (.inr (.inr (.inr h5))))];exact ⟨trivial,rfl,trivial⟩
 have h5:(l.getD 0 default).args=0:=by simpa using h5
 have nb:¬(n < 0∨1000000 < n∨l.length=0∨4096 < l.length∨(l.getD 0 default).args≠0):=fun z=>z.elim h (fun z=>z.elim h2 (fun z=>z.elim (fun z=>h3 (by omega)) (fun z=>z.elim (fun z=>h4 (by omega)) (fun z=>z h5))))
 have ev:pT l n=if bw l 0=false then 310 else if gG l l.length 0 (nv l.length ⟨true,0,n⟩)=true then 0 else 310:=by unfold pT;rw [if_neg nb]
 clear bad1 nb h5
 refine ⟨⟨(0,0),⟨Nat.zero_le _,rfl,by omega,by simp⟩,by repeat' (first | exact trivial | rfl | apply And.intro)⟩,?_⟩
 rintro ⟨i,z⟩ ⟨i1,i2,i3,i4⟩
 simp only at i1 i2 i3 i4 ⊢
 refine a7 (fun q=>?_) (fun q=>?_)
 ·replace q:=Xo q
  have q:i < l.length:=by omega
  rw [bR l i (default:Chnk) q] at i2
  have hg:=iI l i default q
  have hop:=(hl.mem (fO l i default q))
  have ho:=hop.chunk_ops.len
  generalize l.getD i default=C at *
  have e2:bw (C ::l.drop (i+1)) (z:Int)=if C.args < 0∨4096 < C.args∨4096 - (z:Int) < (C.ops.length:Int) then false else bw (l.drop (i+1)) ((z:Int)+C.ops.length):=rfl
  rw [e2] at i2
  have bad:C.args < 0∨4096 < C.args∨4096 - (z:Int) < (C.ops.length:Int)→pT l n=310:=fun y=>by
   rw [if_pos y] at i2
   rw [ev,←i2];rfl
  refine ⟨⟨by omega,by omega⟩,a7 (fun a=>?_) (fun a=>?_)⟩
  ·rw [bad (.inl (Xo a))];exact ⟨trivial,rfl,trivial⟩
  replace a:¬C.args < 0:=fun q=>a (Xd q)
  refine ⟨⟨by omega,by omega⟩,a7 (fun b=>?_) (fun b=>?_)⟩
  ·rw [bad (.inr (.inl (Xo b)))];exact ⟨trivial,rfl,trivial⟩
  replace b:¬4096 < C.args:=fun q=>b (Xd q)
  refine ⟨⟨by omega,by omega⟩,a7 (fun c=>?_) (fun c=>?_)⟩
  ·replace c:=Xo c
   rw [bad (.inr (.inr (by omega)))];exact ⟨trivial,rfl,trivial⟩
  replace c:¬4096 < (C.ops.length:Int):=fun q=>c (Xd q)
  refine ⟨⟨by omega,by omega⟩,ak (by omega) (by omega),a7 (fun d=>?_) (fun d=>?_)⟩
  ·replace d:=Xo d
   rw [bad (.inr (.inr (by omega)))];exact ⟨trivial,rfl,trivial⟩
  replace d:¬4096 < (z:Int)+(C.ops.length:Int):=fun q=>d (Xd q)
  rw [if_neg (fun y=>y.elim a (fun y=>y.elim b (fun y=>by omega)))] at i2
  refine ⟨ak (by omega) (by omega),(i+1,z+C.ops.length),⟨q,by rw [←i2];congr 1,by simp only;omega,?_⟩,by simp only;omega,by simp only;omega,by simp only;omega,by repeat' (first | exact trivial | rfl | apply And.intro)⟩
  intro c' hc'
  rw [hg] at hc'
  rcases List.mem_append.1 hc' with hc' | hc'
  ·exact i4 c' hc'
  ·rw [List.mem_singleton.1 hc'];omega
 ·replace q:¬(i:Int) < (l.length:Int):=fun y=>q (Xd y)
  have q:i=l.length:=by omega
  subst q
  rw [List.drop_length] at i2
  have i2:bw l 0=true:=i2.symm
  rw [i2,if_neg (by simp)] at ev
  rw [List.take_length] at i4
  refine ⟨⟨by omega,by omega,by show (l.length:Int) *24<=_;omega⟩,⟨by omega,by omega⟩,by simp only [List.length_replicate];omega,⟨(0,nv l.length ⟨true,0,n⟩),⟨Nat.zero_le _,by unfold nv;simp,rfl⟩,by repeat' (first | exact trivial | rfl | apply And.intro)⟩,?_⟩
  rintro ⟨k,bs⟩ ⟨k1,k2,k3⟩
  simp only at k1 k2 k3 ⊢
  refine a7 (fun q=>?_) (fun q=>?_)
  ·replace q:=Xo q
   have q:k < l.length:=by omega
   have e:l.length - k=(l.length - (k+1))+1:=by omega
   rw [e,gG] at k3
   refine ⟨⟨by omega,by omega⟩,by omega,a7 (fun a=>?_) (fun a=>?_)⟩
   ·have a:(bs.getD k default).known=false:=by simpa using a
    rw [if_pos a] at k3
    rw [ev,←k3];exact ⟨trivial,rfl,trivial⟩
   have a:(bs.getD k default).known=true:=by simpa using a
   rw [if_neg (by rw [a];exact fun z=>by cases z)] at k3
   refine ⟨⟨by omega,by omega,k2,rfl,?_,hl⟩,a7 (fun b=>?_) (fun b=>?_)⟩
   ·unfold aG cO
    rw [Int.toNat_natCast]
    exact i4 _ (fO l k default q)
   ·have b:(ck l k bs).1=false:=by simpa using b
    rw [if_neg (by rw [b];exact fun z=>by cases z)] at k3
    rw [ev,←k3];exact ⟨trivial,rfl,trivial⟩
   ·have b:(ck l k bs).1=true:=by simpa using b
    rw [if_pos b] at k3
    exact ⟨ak (by omega) (by omega),(k+1,(ck l k bs).2),⟨q,by rw [pV];exact k2,k3⟩,by simp only;omega,by simp only;omega,by repeat' (first | exact trivial | rfl | apply And.intro)⟩
  ·replace q:¬(k:Int) < (l.length:Int):=fun y=>q (Xd y)
   have e:l.length - k=0:=by omega
   rw [e,gG] at k3
   rw [ev,←k3];exact ⟨trivial,rfl,trivial⟩
theorem wi (n:Int) (hn:Wf (.int .u64) n) :
  let A:=(247:Int);let B:=(fun (n:Int)=>UInt8.ofNat (Int.toNat n));let C:=(8:Nat);let D:=(0:Nat);let E:=(256:Nat);let F:=(1:Nat);let G:=Int.toNat n;let H:=(0:Int);let I:=lB UInt8=lB UInt8/\false=false/\True;let J:=(256:Int);let K:=(9223372036854775807:Nat);if decide (n<=A)=true then True/\List.map B [IntKind.wrap IntKind.u8 n]=cI n/\True else (∃(x:Nat),(x<=C/\(x=D∨Int.toNat n / E ^ (x - F)≠D))/\n=(↑(Int.toNat n / E ^ x):Int)/\([]:Str)=lR G x/\H=(↑x:Int)/\I)/\∀(x:Nat),let L:=(↑(Int.toNat n / E ^ x):Int);let M:=Int.tmod L J;let N:=[IntKind.wrap IntKind.u8 M];let O:=(↑x:Int);let P:=[IntKind.wrap IntKind.u8 (A+O)];x<=C/\(x=D∨Int.toNat n / E ^ (x - F)≠D)→if decide (H<L)=true then (J≠H/\inR IntKind.u64 M)/\List.length (List.map B N)+List.length (lR G x)<=K/\(J≠H/\inR IntKind.u64 (Int.tdiv L J))/\inR IntKind.i64 (O+(1:Int))/\∃(y:Nat),(y<=C/\(y=D∨Int.toNat n / E ^ (y - F)≠D))/\(9:Nat) - y<(9:Nat) - x/\Int.tdiv L J=(↑(Int.toNat n / E ^ y):Int)/\List.map B N++lR G x=lR G y/\O+(1:Int)=(↑y:Int)/\I else inR IntKind.i64 (A+O)/\List.length (List.map B P)+List.length (lR G x)<=K/\True/\List.map B P++lR G x=cI n/\True:=by
 conv=>zeta
 obtain ⟨w1,w2⟩:=hn.int
 have w1:(0:Int)<=n:=w1
 have w2:n<=(18446744073709551615:Int):=w2
 obtain ⟨m,rfl⟩:=Int.eq_ofNat_of_zero_le w1
 simp only [Int.toNat_natCast]
 have hm:m < 2 ^ 64:=by omega
 refine a7 (fun h=>?_) (fun h=>?_)
 ·replace h:=Xo h
  refine ⟨trivial,?_,trivial⟩
  unfold cI;rw [if_pos (by omega)];rfl
 have h:¬(m:Int)<=247:=fun q=>h (Xd q)
 obtain ⟨k,k1,k2,k3,k4⟩:=ud (n:=m) (by omega) hm
 have k8:k<=8:=by
  have:=(lM (m:Int)).2
  omega
 refine ⟨⟨0,⟨by omega,.inl rfl⟩,by simp,rfl,rfl,by repeat' (first | exact trivial | rfl | apply And.intro)⟩,?_⟩
 rintro x ⟨x1,x2⟩
 have e:∀a:Nat,Int.tdiv (a:Int) 256=((a / 256:Nat):Int):=fun a=>by rw [Int.tdiv_eq_ediv_of_nonneg (by omega)];omega
 have e':∀a:Nat,Int.tmod (a:Int) 256=((a % 256:Nat):Int):=fun a=>by rw [Int.tmod_eq_emod_of_nonneg (by omega)];omega
 have ex:m / 256 ^ x / 256=m / 256 ^ (x+1):=by rw [Nat.div_div_eq_div_mul,Nat.pow_succ]
 have wr:∀a:Nat,a < 256→UInt8.ofNat (IntKind.wrap IntKind.u8 (a:Int)).toNat=UInt8.ofNat a:=fun a ha=>by
  simp only [IntKind.wrap,IntKind.bits,IntKind.signed]
  simp
  congr 1
  omega
 simp only [e,e',ex]
 have hle:m / 256 ^ x<=m:=Nat.div_le_self _ _
 have hle2:m / 256 ^ (x+1)<=m:=Nat.div_le_self _ _
 have hmod:m / 256 ^ x % 256 < 256:=Nat.mod_lt _ (by omega)
 have hl:=jO m x
 refine a7 (fun q=>?_) (fun q=>?_)
 ·have q:=Xo q
  have q:m / 256 ^ x≠0:=by omega
  have hx:x < 8:=by
   rcases Nat.lt_or_ge x 8 with c | c
   ·exact c
   ·have:x=8:=by omega
    subst this
    exact absurd (Nat.div_eq_of_lt (by omega)) q
  refine ⟨⟨by omega,⟨by show (0:Int)<=_;omega,by show _<=(18446744073709551615:Int);omega⟩⟩,by simp only [List.length_map,List.length_singleton];omega,⟨by omega,⟨by show (0:Int)<=_;omega,by show _<=(18446744073709551615:Int);omega⟩⟩,ak (by omega) (by omega),x+1,⟨by omega,.inr q⟩,by omega,rfl,?_,by omega,by repeat' (first | exact trivial | rfl | apply And.intro)⟩
  rw [List.map_cons,List.map_nil,wr _ hmod]
  rfl
 ·have q:m / 256 ^ x=0:=by
   have:¬(0:Int) < ((m / 256 ^ x:Nat):Int):=fun z=>q (Xd z)
   exact Nat.eq_zero_of_not_pos fun z=>this (Int.natCast_pos.2 z)
  have exk:x=k:=by
   have h1:m < 256 ^ x:=by
    rcases Nat.lt_or_ge m (256 ^ x) with c | c
    ·exact c
    ·exact absurd (Nat.div_pos c (Nat.pos_of_ne_zero (by exact Nat.pos_iff_ne_zero.1 (Nat.pow_pos (by omega))))) (by omega)
   have h2:k<=x:=by
    rcases Nat.lt_or_ge x k with c | c
    ·have:(256:Nat) ^ x<=256 ^ (k - 1):=Nat.pow_le_pow_right (by omega) (by omega)
     omega
    ·exact c
   rcases Nat.lt_or_ge k x with c | c
   ·rcases x2 with x2 | x2
    ·omega
    ·have:(256:Nat) ^ k<=256 ^ (x - 1):=Nat.pow_le_pow_right (by omega) (by omega)
     exact absurd (Nat.div_eq_of_lt (by omega)) x2
   ·omega
  subst exk
  refine ⟨ak (by omega) (by omega),by simp only [List.length_map,List.length_singleton];omega,trivial,?_,trivial⟩
  unfold cI kr
  rw [if_neg (by omega),k1,Int.toNat_natCast]
  have eo:=CD (n:=m) k8
  rw [←eo]
  rfl
theorem Bz (s:Str) (ho:s.length<=140737488355328) :
  let A:=(↑(List.length s):Int);inR IntKind.u64 A/\List.length (cI A)+List.length s<=(9223372036854775807:Nat)/\True/\cI A++s=b9 s/\True:=by
 conv=>zeta
 have h9:=jc (s.length:Int)
 exact ⟨⟨by show (0:Int)<=_;omega,by show _<=(18446744073709551615:Int);omega⟩,by omega,trivial,rfl,trivial⟩
theorem CL (n:Int)  :
  True/\cI (IntKind.wrap IntKind.u64 n)=bz n/\True:=by
 exact ⟨trivial,rfl,trivial⟩
theorem BA (l:List Str) (hl:Wf (.lst .str) l) (ho:(dj l).length<=140737488355328) :
  let A:=(↑(List.length l):Int);let B:=l=l/\lB UInt8=lB UInt8/\True;let C:=dfl Ty.str;inR IntKind.u64 A/\(∃(x:Nat),x<=List.length l/\(0:Int)=(↑x:Int)/\cI A=cI A++List.flatMap b9 (List.take x l)/\B)/\∀(x:Nat),let D:=(↑x:Int);let E:=List.getD l (Int.toNat D) C;let F:=List.take x l;x<=List.length l→if decide (D<A)=true then ((0:Int)<=D/\D<A)/\List.length E<=(140737488355328:Nat)/\List.length (cI A++List.flatMap b9 F)+List.length (b9 E)<=(9223372036854775807:Nat)/\inR IntKind.i64 (D+(1:Int))/\∃(y:Nat),y<=List.length l/\List.length l - y<List.length l - x/\D+(1:Int)=(↑y:Int)/\cI A++List.flatMap b9 F++b9 E=cI A++List.flatMap b9 (List.take y l)/\B else True/\cI A++List.flatMap b9 F=dj l/\True:=by
 conv=>zeta
 have ln:=hl.len
 have e:∀x,x<=l.length→(cI (l.length:Int)++(l.take x).flatMap b9).length<=140737488355328:=fun x hx=>by
  have h1:(dj l).length=(cI (l.length:Int)++(l.take x).flatMap b9).length+((l.drop x).flatMap b9).length:=by
   unfold dj
   rw [←List.length_append,List.append_assoc,←List.flatMap_append,List.take_append_drop]
  omega
 refine ⟨⟨by show (0:Int)<=_;omega,by show _<=(18446744073709551615:Int);omega⟩,⟨0,Nat.zero_le _,rfl,by simp,by repeat' (first | exact trivial | rfl | apply And.intro)⟩,?_⟩
 intro x hx
 refine a7 (fun k=>?_) (fun k=>?_)
 ·replace k:=Xo k
  have k:x < l.length:=by omega
  have hg:l.take (x+1)=l.take x++[l.getD x []]:=by
   rw [List.take_add_one,List.getElem?_eq_getElem k]
   simp [k]
  have he:=e (x+1) k
  rw [hg,List.flatMap_append,←List.append_assoc,List.length_append] at he
  simp only [List.flatMap_cons,List.flatMap_nil,List.append_nil] at he
  simp only [Int.toNat_natCast]
  have ht:(b9 (l.getD x [])).length=(cI ((l.getD x []).length:Int)).length+(l.getD x []).length:=by unfold b9;rw [List.length_append]
  have hd:l.getD x (dfl Ty.str)=l.getD x []:=rfl
  rw [hd]
  refine ⟨⟨by omega,by omega⟩,by omega,by omega,kg k ln,x+1,k,by omega,rfl,?_,by repeat' (first | exact trivial | rfl | apply And.intro)⟩
  rw [hg,List.flatMap_append,←List.append_assoc]
  simp only [List.flatMap_cons,List.flatMap_nil,List.append_nil]
 ·replace k:¬(x:Int) < (l.length:Int):=fun q=>k (Xd q)
  have k:x=l.length:=by omega
  subst k
  rw [List.take_length]
  exact ⟨trivial,rfl,trivial⟩
theorem wj (l:List Chnk) (hl:Wf (.lst (.st .chunk)) l) (ho:hZ l) :
  let A:=(0:Int);let B:=True;let C:=fX l;let D:=(↑(List.length l):Int);let E:=lB UInt8=lB UInt8;let F:=false=false;let G:=l=l/\E/\A=A/\F/\B;let H:=dfl (Ty.st SN.chunk);let I:=(9223372036854775807:Nat);let J:=true=true;let K:=l=l/\E/\A=A/\F/\J/\B;let L:=dfl (Ty.st SN.op);let M:=(140737488355328:Nat);let N:=dfl (Ty.int IntKind.i64);let O:=(1:Int);if (!decide (ib l (1000:Int)=A))=true then B/\[]=C.1/\(310:Int)=C.2/\B else (∃(x:Nat),x<=List.length l/\A=(↑x:Int)/\bz D=prC l x/\G)/\∀(x:Nat),let P:=(↑x:Int);let Q:=A<=P/\P<D;let R:=Int.toNat P;let S:=List.getD l R H;let T:=(↑(List.length S.ops):Int);let U:=List.getD l R default;x<=List.length l→if decide (P<D)=true then Q/\List.length (prC l x)+List.length (bz S.args)<=I/\Q/\List.length (prC l x++bz S.args)+List.length (bz T)<=I/\(∃(x_1:Nat),x_1<=List.length U.ops/\A=(↑x_1:Int)/\prC l x++bz S.args++bz T=prC l R++prO U x_1/\P=P/\K)/\∀(x_1:Nat),let V:=(↑x_1:Int);let W:=Int.toNat V;let X:=List.getD S.ops W L;let Y:=dj X.names;let Z:=(↑(List.length X.tos):Int);let a:=List.getD U.ops W default;let b:=V=V/\P=P/\l=l/\E/\A=A/\F/\J/\J/\List.getD S.ops W L=List.getD S.ops W L/\B;x_1<=List.length U.ops→Q/\if decide (V<T)=true then Q/\(A<=V/\V<T)/\List.length (prC l R++prO U x_1)+List.length (bz X.kind)<=I/\List.length (prC l R++prO U x_1++bz X.kind)+List.length (bz X.n)<=I/\List.length X.name<=M/\List.length (prC l R++prO U x_1++bz X.kind++bz X.n)+List.length (b9 X.name)<=I/\List.length Y<=M/\List.length (prC l R++prO U x_1++bz X.kind++bz X.n++b9 X.name)+List.length Y<=I/\List.length (prC l R++prO U x_1++bz X.kind++bz X.n++b9 X.name++dj X.names)+List.length (bz Z)<=I/\(∃(x_2:Nat),x_2<=List.length a.tos/\A=(↑x_2:Int)/\prC l R++prO U x_1++bz X.kind++bz X.n++b9 X.name++dj X.names++bz Z=prC l R++prO U W++prT a x_2/\b)/\∀(x_2:Nat),let c:=(↑x_2:Int);let d:=prC l R++prO U W++prT a x_2;let e:=List.getD X.tos (Int.toNat c) N;x_2<=List.length a.tos→if decide (c<Z)=true then (A<=c/\c<Z)/\List.length d+List.length (bz e)<=I/\inR IntKind.i64 (c+O)/\∃(y:Nat),y<=List.length a.tos/\List.length a.tos - y<List.length a.tos - x_2/\c+O=(↑y:Int)/\prC l R++prO U W++prT a x_2++bz e=prC l R++prO U W++prT a y/\b else List.length d+List.length (bz X.pos)<=I/\inR IntKind.i64 (V+O)/\∃(y:Nat),y<=List.length U.ops/\List.length U.ops - y<List.length U.ops - x_1/\V+O=(↑y:Int)/\prC l R++prO U W++prT a x_2++bz X.pos=prC l R++prO U y/\P=P/\K else inR IntKind.i64 (P+O)/\∃(y:Nat),y<=List.length l/\List.length l - y<List.length l - x/\P+O=(↑y:Int)/\prC l R++prO U x_1=prC l y/\G else B/\prC l x=C.1/\A=C.2/\B:=by
 conv=>zeta
 have ln:=hl.len
 have hT:(lQ l).length<=8796093022208:=ho
 have dC:dfl (Ty.st SN.chunk)=(default:Chnk):=rfl
 have dO:dfl (Ty.st SN.op)=(default:Opn):=rfl
 have dI:dfl (Ty.int IntKind.i64)=(0:Int):=rfl
 simp only [Int.toNat_natCast,dC,dO,dI]
 refine a7 (fun h=>?_) (fun h=>?_)
 ·have h:ib l 1000≠0:=by simpa using h
  unfold fX;rw [if_pos h];exact ⟨trivial,rfl,rfl,trivial⟩
 have h:ib l 1000=0:=by simpa using h
 refine ⟨⟨0,Nat.zero_le _,rfl,by unfold prC;simp,by repeat' (first | exact trivial | rfl | apply And.intro)⟩,?_⟩
 intro x hx
 have px:=vT l x
 refine a7 (fun k=>?_) (fun k=>?_)
 ·replace k:=Xo k
  have k:x < l.length:=by omega
  have eC:=pN k
  have sC:=pL k
  generalize l.getD x default=C at *
  have oC:=pQ C
  have a1:=bO C.args
  have a2:=bO (C.ops.length:Int)
  refine ⟨⟨by omega,by omega⟩,by (try simp only [List.length_append]);omega,⟨by omega,by omega⟩,by (try simp only [List.length_append]);omega,⟨0,Nat.zero_le _,rfl,by unfold prO AM;simp,by repeat' (first | exact trivial | rfl | apply And.intro)⟩,?_⟩
  intro y hy
  have py:=vU C y
  refine ⟨⟨by omega,by omega⟩,a7 (fun m=>?_) (fun m=>?_)⟩
  ·replace m:=Xo m
   have m:y < C.ops.length:=by omega
   have eO:=pO m
   have sO:=pM m
   have lO:C.ops.length<=C.ops.length:=Nat.le_refl _
   generalize C.ops.getD y default=O at *
   obtain ⟨b1,b2,b3⟩:=kV O
   have oT:=kW O
   have c1:=bO O.kind
   have c2:=bO O.n
   have c3:=bO (O.tos.length:Int)
   have c4:=bO O.pos
   refine ⟨⟨by omega,by omega⟩,⟨by omega,by omega⟩,by (try simp only [List.length_append]);omega,by (try simp only [List.length_append]);omega,by omega,by (try simp only [List.length_append]);omega,by omega,by (try simp only [List.length_append]);omega,by (try simp only [List.length_append]);omega,⟨0,Nat.zero_le _,rfl,by unfold prT yD;simp,by repeat' (first | exact trivial | rfl | apply And.intro)⟩,?_⟩
   intro z hz
   have pz:=AO O z
   refine a7 (fun n=>?_) (fun n=>?_)
   ·replace n:=Xo n
    have n:z < O.tos.length:=by omega
    have sT:=ua n
    have c5:=bO (O.tos.getD z 0)
    refine ⟨⟨by omega,by omega⟩,by (try simp only [List.length_append]);omega,ak (by omega) (by omega),z+1,by omega,by omega,by omega,by rw [sT];simp only [List.append_assoc],by repeat' (first | exact trivial | rfl | apply And.intro)⟩
   ·replace n:¬(z:Int) < (O.tos.length:Int):=fun q=>n (Xd q)
    have n:z=O.tos.length:=by omega
    subst n
    refine ⟨by (try simp only [List.length_append]);omega,ak (by omega) (by omega),y+1,by omega,by omega,by omega,by rw [sO,←xp];simp only [List.append_assoc],by repeat' (first | exact trivial | rfl | apply And.intro)⟩
  ·replace m:¬(y:Int) < (C.ops.length:Int):=fun q=>m (Xd q)
   have m:y=C.ops.length:=by omega
   subst m
   refine ⟨ak (by omega) (by omega),x+1,by omega,by omega,by omega,by rw [sC,xo],by repeat' (first | exact trivial | rfl | apply And.intro)⟩
 ·replace k:¬(x:Int) < (l.length:Int):=fun q=>k (Xd q)
  have k:x=l.length:=by omega
  subst k
  have e:fX l=(lQ l,0):=by unfold fX;rw [if_neg (fun z=>z h)]
  rw [e,xn]
  exact ⟨trivial,rfl,rfl,trivial⟩
end Go.AL.Seat
end
section
open Go Go.AL Go.Proofs Go.Shelf Go.Pd
namespace Go.AL.Seat
variable [Tabs]
variable [SeatLaid]
theorem qa:ay Tryz.prog 174 (p1 (.int .u8) fun c=>.ret (.bool (bS c))):=
 bU (ee Tryz.func174) fun c _ _=>g0 sn a0 Tryz.func174 (yW c)
theorem qb:ay Tryz.prog 178 (p1 (.int .u8) fun c=>.ret (.bool (bX c))):=
 bU (ee Tryz.func178) fun c _ _=>g0 sn a0 Tryz.func178 (yX c)
theorem wk:ay Tryz.prog 209 (p1 (.int .u8) fun c=>.ret (.bool (eM c))):=
 bU (ee Tryz.func209) fun c _ _=>g0 sn a0 Tryz.func209 (yY c)
theorem rh:ay Tryz.prog 175 (p1 .str fun s=>.ret (.int .i64 (dc s:Int))):=
 bU (ee Tryz.func175) fun s hs _=>g0 (sc qa (sc qb (sc wk sn))) ⟨[(2,fun S0=>⟨Nat,fun k=>k<=s.length/\dc s=k+dc (s.drop k),fun k=>[(3,.int .i64 k)],fun _=>[],fun k=>s.length - k⟩)],[],[]⟩ Tryz.func175 (Bu s hs)
theorem zd:ay Tryz.prog 210 (p2 .str (.lst .str) fun s l=>.ret (.bool (decide (s∈l)))):=
 iD (ee Tryz.func210) fun s l _ hl _=>g0 sn ⟨[(2,fun S0=>⟨Nat,fun k=>k<=l.length/\decide (s∈l)=decide (s∈l.drop k),fun k=>[(5,.int .i64 k)],fun _=>[],fun k=>l.length - k⟩)],[],[]⟩ Tryz.func210 (Bv s l hl)
theorem ze:ay Tryz.prog 176 (p1 .str fun s=>.ret (.bool (lG s))):=
 bU (ee Tryz.func176) fun s _ _=>g0 (sc zd sn) a0 Tryz.func176 (Bw s)
theorem ri:ay Tryz.prog 133 (p1 .str fun s=>.ret (.bool (bY s))):=
 bU (ee Tryz.func133) fun s _ _=>g0 (sc qa (sc rh (sc ze sn))) a0 Tryz.func133 (Bx s)
theorem wm:ay Tryz.prog 136 (p1 .str fun s=>.ret (.bool (eP s))):=
 bU (ee Tryz.func136) fun s _ _=>g0 (sc qb (sc rh sn)) a0 Tryz.func136 (yZ s)
theorem wq:ay Tryz.prog 138 (p1 (.lst .str) fun l=>.ret (.bool (di l))):=
 bU (ee Tryz.func138) fun l hl _=>g0 (sc ri sn) ⟨[(2,fun S0=>⟨Nat,fun i=>i<=l.length/\(l.take i).all bY=true/\(l.take i).Nodup,fun i=>[(3,.int .i64 i)],fun _=>[],fun i=>l.length - i⟩),(7,fun S0=>jo S0 3 fun i0=>⟨Nat,fun j=>j<=i0.toNat/\∀k,k < j→l.getD k []≠l.getD i0.toNat [],fun j=>[(4,.int .i64 j)],fun _=>[],fun j=>i0.toNat - j⟩)],[],[]⟩ Tryz.func138 (za l hl)
theorem uD:ay Tryz.prog 92 (p1 (.st .op) fun o=>.ret (.bool (bK o))):=
 bU (ee Tryz.func92) fun o ho _=>g0 (sc ri (sc wm (sc wq sn))) a0 Tryz.func92 (wg o ho)
theorem wu:ay Tryz.prog 93 (p3 (.st .op) (.st .rstt) (.int .i64) fun o s b=>.ret (.tup [.st .rstt (aK o s b).1,.bool (aK o s b).2])):=
 DS (ee Tryz.func93) fun o s b _ _ _ _=>g1 nn (fun _=>[]) nn (fun d=>Nat.beq d 37 || Nat.beq d 69 || Nat.beq d 78 || Nat.beq d 88 || Nat.beq d 90 || Nat.beq d 110) nn sn a0 Tryz.func93 (zb o s b)
theorem zf:ay Tryz.prog 94 (p2 (.st .op) (.int .i64) fun o i=>.ret (.lst (.int .i64) (aZ o i) none)):=
 iD (ee Tryz.func94) fun o i _ _ _=>g1 nn (fun _=>[]) nn (fun d=>Nat.beq d 17 || Nat.beq d 28) nn sn a0 Tryz.func94 (By o i)
theorem wv:ay Tryz.prog 63 (DE):=
 CG (ee Tryz.func63) fun code k bs n ho=>g1 nn (fun _=>[]) nn (fun d=>Nat.beq d 94) (fun d=>Nat.beq d 64) (sc uD (sc wu (sc zf sn))) ⟨[(5,fun S0=>⟨Nat × List Rstt × List Rstt,fun x=>x.1<=aG code k/\x.2.1.length=aG code k+1/\x.2.2.length=code.length/\ky code k (aG code k) ((cO code k).ops.drop x.1) x.1 x.2.1 x.2.2=ck code k bs,fun x=>[(9,.int .i64 x.1)],fun x=>[(25,.box (.row (.st .rstt) x.2.1)),(900,.box (.row (.st .rstt) x.2.2))],fun x=>aG code k - x.1⟩),(22,fun S0=>Bj S0 fun i0 l0 s0 ws=>⟨Nat × List Rstt,fun x=>x.1<=ws.length/\x.2.length=aG code k+1/\cw i0 (aG code k) s0 (ws.drop x.1) x.2=cw i0 (aG code k) s0 ws l0,fun x=>[(15,.int .i64 x.1)],fun x=>[(25,.box (.row (.st .rstt) x.2))],fun x=>ws.length - x.1⟩)],[],[]⟩ Tryz.func63 (zc code k bs n ho)
theorem uE:ay Tryz.prog 31 (p2 (.lst (.st .chunk)) (.int .i64) fun l n=>.ret (.int .i64 (ib l n))):=
 iD (ee Tryz.func31) fun l n hl _ _=>g0 (sc wv sn) ⟨[(5,fun S0=>⟨Nat × Nat,fun x=>x.1<=l.length/\bw (l.drop x.1) x.2=bw l 0/\x.2<=4096/\∀c∈l.take x.1,c.ops.length<=4096,fun x=>[(6,.int .i64 x.1),(5,.int .i64 x.2)],fun _=>[],fun x=>l.length - x.1⟩),(15,fun S0=>⟨Nat × List Rstt,fun x=>x.1<=l.length/\x.2.length=l.length/\gG l (l.length - x.1) x.1 x.2=gG l l.length 0 (nv l.length ⟨true,0,n⟩),fun x=>[(8,.int .i64 x.1)],fun x=>[(73,.box (.row (.st .rstt) x.2))],fun x=>l.length - x.1⟩)],[],[]⟩ Tryz.func31 (wh l n hl)
theorem jS:ay Tryz.prog 64 (p1 (.int .u64) fun n=>.ret (.str (cI n))):=
 bU (ee Tryz.func64) fun n hn _=>g1 nn (fun _=>[]) nn (fun d=>Nat.beq d 8 || Nat.beq d 15 || Nat.beq d 26) nn sn ⟨[(5,fun S0=>⟨Nat,fun j=>j<=8/\(j=0∨n.toNat / 256 ^ (j - 1)≠0),fun j=>[(0,.int .u64 ((n.toNat / 256 ^ j:Nat):Int)),(3,.str (lR n.toNat j)),(4,.int .i64 (j:Int))],fun _=>[],fun j=>9 - j⟩)],[],[]⟩ Tryz.func64 (wi n hn)
theorem rl:ay Tryz.prog 33 (p1 .str fun s=>⟨some (s.length<=140737488355328),none,.str (b9 s),[]⟩):=
 bU (ee Tryz.func33) fun s _ ho=>g0 (sc jS sn) a0 Tryz.func33 (Bz s (ho _ rfl))
theorem BB:ay Tryz.prog 32 (p1 (.int .i64) fun n=>.ret (.str (bz n))):=
 bU (ee Tryz.func32) fun n _ _=>g1 nn (fun _=>[]) nn (fun d=>Nat.beq d 4) nn (sc jS sn) a0 Tryz.func32 (CL n)
theorem zg:ay Tryz.prog 34 (p1 (.lst .str) fun l=>⟨some ((dj l).length<=140737488355328),none,.str (dj l),[]⟩):=
 bU (ee Tryz.func34) fun l hl ho=>g0 (sc jS (sc rl sn)) ⟨[(3,fun S0=>⟨Nat,fun k=>k<=l.length,fun k=>[(4,.int .i64 k),(3,.str (cI l.length++(l.take k).flatMap b9))],fun k=>[],fun k=>l.length - k⟩)],[],[]⟩ Tryz.func34 (BA l hl (ho _ rfl))
theorem uF:ay Tryz.prog 16 (p1 (.lst (.st .chunk)) fun l=>⟨some (hZ l),none,.tup [.str (fX l).1,.int .i64 (fX l).2],[]⟩):=
 bU (ee Tryz.func16) fun l hl ho=>g0 (sc uE (sc BB (sc rl (sc zg sn)))) ⟨[(5,fun S0=>⟨Nat,fun k=>k<=l.length,fun k=>[(5,.int .i64 k),(4,.str (prC l k))],fun k=>[],fun k=>l.length - k⟩),(9,fun S0=>jo S0 5 fun k0=>⟨Nat,fun j=>j<=(l.getD k0.toNat default).ops.length,fun j=>[(6,.int .i64 j),(4,.str (prC l k0.toNat++prO (l.getD k0.toNat default) j))],fun _=>[],fun j=>(l.getD k0.toNat default).ops.length - j⟩),(14,fun S0=>jo S0 5 fun k0=>jo S0 6 fun j0=>⟨Nat,fun i=>i<=((l.getD k0.toNat default).ops.getD j0.toNat default).tos.length,fun i=>[(8,.int .i64 i),(4,.str (prC l k0.toNat++prO (l.getD k0.toNat default) j0.toNat++prT ((l.getD k0.toNat default).ops.getD j0.toNat default) i))],fun _=>[],fun i=>((l.getD k0.toNat default).ops.getD j0.toNat default).tos.length - i⟩)],[],[]⟩ Tryz.func16 (wj l hl (ho _ rfl))
end Go.AL.Seat
end
noncomputable section
namespace Go.Pd
open Go Go.AL
def gI (o:Opn):Int:=min (o.names.length:Int) 3000+min (o.tos.length:Int) 3000+Int.tdiv (min (o.name.length:Int) 100000) 100
def cY:List Opn→Int→Option Int
 | [],n=>some n
 | o ::r,n=>if 2000 < n+gI o then none else cY r (n+gI o)
def l4 (c:Chnk) (n:Int):Int:=n+(1+min (c.ops.length:Int) 3000)
def cm:List Chnk→Int→Bool
 | [],_=>true
 | c ::r,n=>if 2000 < l4 c n then false else match cY c.ops (l4 c n) with
  | none=>false
  | some k=>cm r k
theorem uG (o:Opn):0<=gI o/\gI o<=7000:=by
 unfold gI
 have h:Int.tdiv (min (o.name.length:Int) 100000) 100=min (o.name.length:Int) 100000 / 100:=Int.tdiv_eq_ediv_of_nonneg (by omega)
 rw [h]
 omega
def CM (M:Nat) (o:Opn):Prop:=o.name.length<=M/\∀x∈o.names,x.length<=M
theorem D6 {M:Nat}:∀{l:List Str},(∀x∈l,x.length<=M)→wL l<=l.length *(M+1)
 | [],_=>by simp [wL]
 | x ::r,h=>by
  have h1:=h x (List.mem_cons_self ..)
  have h2:=D6 (l:=r) (fun y hy=>h y (List.mem_cons_of_mem _ hy))
  have e:wL (x ::r)=x.length+1+wL r:=by simp [wL]
  rw [e,List.length_cons,Nat.succ_mul]
  omega
theorem BC {o:Opn} (h:CM 1048576 o) (hs:gI o<=2000):(wO o:Int)<=1048577 *(gI o+1):=by
 obtain ⟨h1,h2⟩:=h
 have h3:=D6 h2
 unfold gI at hs ⊢
 have h4:Int.tdiv (min (o.name.length:Int) 100000) 100=min (o.name.length:Int) 100000 / 100:=Int.tdiv_eq_ediv_of_nonneg (by omega)
 rw [h4] at hs ⊢
 unfold wO
 omega
theorem rm:∀{l:List Opn} {n k:Int},(∀o∈l,CM 1048576 o)→0<=n→n<=2000→cY l n=some k→n<=k/\k<=2000/\(wOs l:Int)<=1048577 *(k - n+l.length)
 | [],n,k,_,h0,hn,h=>by
  unfold cY at h
  simp at h
  subst h
  refine ⟨Int.le_refl _,hn,?_⟩
  simp [wOs]
 | o ::r,n,k,hq,h0,hn,h=>by
  unfold cY at h
  split at h
  ·cases h
  rename_i c
  have b:=uG o
  obtain ⟨i1,i2,i3⟩:=rm (fun o ho=>hq o (List.mem_cons_of_mem _ ho)) (by omega) (by omega) h
  have w:=BC (hq o (List.mem_cons_self ..)) (by omega)
  have e:wOs (o ::r)=wO o+wOs r:=by simp [wOs]
  rw [e,List.length_cons]
  refine ⟨by omega,i2,by omega⟩
theorem rn:∀{l:List Chnk} {n:Int},(∀c∈l,∀o∈c.ops,CM 1048576 o)→0<=n→n<=2000→cm l n=true→(wCs l:Int)<=1048577 *(2000 - n)
 | [],n,_,h0,hn,h=>by simp [wCs];omega
 | c ::r,n,hq,h0,hn,h=>by
  unfold cm at h
  split at h
  ·cases h
  rename_i a
  split at h
  ·cases h
  rename_i k hk
  unfold l4 at a hk
  obtain ⟨i1,i2,i3⟩:=rm (hq c (List.mem_cons_self ..)) (by omega) (by omega) hk
  have ih:=rn (fun c hc=>hq c (List.mem_cons_of_mem _ hc)) (by omega) i2 h
  have e:wCs (c ::r)=wC c+wCs r:=by simp [wCs]
  rw [e]
  unfold wC
  omega
theorem zh {l:List Chnk} (hq:∀c∈l,∀o∈c.ops,CM 1048576 o) (h:cm l 0=true):hZ l:=by
 have h1:=rn hq (by omega) (by omega) h
 have h2:=xm l
 unfold hZ
 omega
end Go.Pd
end
section
open Go Go.AL Go.Pd
namespace Go.AL.Seat
theorem wx (l:List Chnk) (hl:Wf (.lst (.st .chunk)) l) :
  (∃(x:Nat × Int),(x.1<=List.length l/\(0:Int)<=x.2/\x.2<=(2000:Int)/\cm l (0:Int)=cm (List.drop x.1 l) x.2)/\(0:Int)=(↑x.1:Int)/\(0:Int)=x.2/\l=l/\True)/\∀(x:Nat × Int),x.1<=List.length l/\(0:Int)<=x.2/\x.2<=(2000:Int)/\cm l (0:Int)=cm (List.drop x.1 l) x.2→if decide ((↑x.1:Int) < (↑(List.length l):Int))=true then ((0:Int)<=(↑x.1:Int)/\(↑x.1:Int) < (↑(List.length l):Int))/\inR IntKind.i64 ((1:Int)+min (↑(List.length (List.getD l (Int.toNat (↑x.1:Int)) (dfl (Ty.st SN.chunk))).ops):Int) (3000:Int))/\inR IntKind.i64 (x.2+((1:Int)+min (↑(List.length (List.getD l (Int.toNat (↑x.1:Int)) (dfl (Ty.st SN.chunk))).ops):Int) (3000:Int)))/\if decide ((2000:Int) < x.2+((1:Int)+min (↑(List.length (List.getD l (Int.toNat (↑x.1:Int)) (dfl (Ty.st SN.chunk))).ops):Int) (3000:Int)))=true then True/\false=cm l (0:Int)/\True else (∃(x_1:Nat × Int),(x_1.1<=List.length (List.getD l (Int.toNat (↑x.1:Int)) default).ops/\(0:Int)<=x_1.2/\x_1.2<=(2000:Int)/\cY (List.getD l (Int.toNat (↑x.1:Int)) default).ops (x.2+((1:Int)+min (↑(List.length (List.getD l (Int.toNat (↑x.1:Int)) (dfl (Ty.st SN.chunk))).ops):Int) (3000:Int)))=cY (List.drop x_1.1 (List.getD l (Int.toNat (↑x.1:Int)) default).ops) x_1.2)/\(0:Int)=(↑x_1.1:Int)/\x.2+((1:Int)+min (↑(List.length (List.getD l (Int.toNat (↑x.1:Int)) (dfl (Ty.st SN.chunk))).ops):Int) (3000:Int))=x_1.2/\(↑x.1:Int)=(↑x.1:Int)/\l=l/\true=true/\false=false/\True)/\∀(x_1:Nat × Int),x_1.1<=List.length (List.getD l (Int.toNat (↑x.1:Int)) default).ops/\(0:Int)<=x_1.2/\x_1.2<=(2000:Int)/\cY (List.getD l (Int.toNat (↑x.1:Int)) default).ops (x.2+((1:Int)+min (↑(List.length (List.getD l (Int.toNat (↑x.1:Int)) (dfl (Ty.st SN.chunk))).ops):Int) (3000:Int)))=cY (List.drop x_1.1 (List.getD l (Int.toNat (↑x.1:Int)) default).ops) x_1.2→((0:Int)<=(↑x.1:Int)/\(↑x.1:Int) < (↑(List.length l):Int))/\if decide ((↑x_1.1:Int) < (↑(List.length (List.getD l (Int.toNat (↑x.1:Int)) (dfl (Ty.st SN.chunk))).ops):Int))=true then ((0:Int)<=(↑x.1:Int)/\(↑x.1:Int) < (↑(List.length l):Int))/\((0:Int)<=(↑x_1.1:Int)/\(↑x_1.1:Int) < (↑(List.length (List.getD l (Int.toNat (↑x.1:Int)) (dfl (Ty.st SN.chunk))).ops):Int))/\((0:Int)<=(↑x.1:Int)/\(↑x.1:Int) < (↑(List.length l):Int))/\((0:Int)<=(↑x_1.1:Int)/\(↑x_1.1:Int) < (↑(List.length (List.getD l (Int.toNat (↑x.1:Int)) (dfl (Ty.st SN.chunk))).ops):Int))/\inR IntKind.i64 (min (↑(List.length (List.getD (List.getD l (Int.toNat (↑x.1:Int)) (dfl (Ty.st SN.chunk))).ops (Int.toNat (↑x_1.1:Int)) (dfl (Ty.st SN.op))).names):Int) (3000:Int)+min (↑(List.length (List.getD (List.getD l (Int.toNat (↑x.1:Int)) (dfl (Ty.st SN.chunk))).ops (Int.toNat (↑x_1.1:Int)) (dfl (Ty.st SN.op))).tos):Int) (3000:Int))/\((0:Int)<=(↑x.1:Int)/\(↑x.1:Int) < (↑(List.length l):Int))/\((0:Int)<=(↑x_1.1:Int)/\(↑x_1.1:Int) < (↑(List.length (List.getD l (Int.toNat (↑x.1:Int)) (dfl (Ty.st SN.chunk))).ops):Int))/\((100:Int)≠(0:Int)/\inR IntKind.i64 (Int.tdiv (min (↑(List.length (List.getD (List.getD l (Int.toNat (↑x.1:Int)) (dfl (Ty.st SN.chunk))).ops (Int.toNat (↑x_1.1:Int)) (dfl (Ty.st SN.op))).name):Int) (100000:Int)) (100:Int)))
  /\inR IntKind.i64 (min (↑(List.length (List.getD (List.getD l (Int.toNat (↑x.1:Int)) (dfl (Ty.st SN.chunk))).ops (Int.toNat (↑x_1.1:Int)) (dfl (Ty.st SN.op))).names):Int) (3000:Int)+min (↑(List.length (List.getD (List.getD l (Int.toNat (↑x.1:Int)) (dfl (Ty.st SN.chunk))).ops (Int.toNat (↑x_1.1:Int)) (dfl (Ty.st SN.op))).tos):Int) (3000:Int)+Int.tdiv (min (↑(List.length (List.getD (List.getD l (Int.toNat (↑x.1:Int)) (dfl (Ty.st SN.chunk))).ops (Int.toNat (↑x_1.1:Int)) (dfl (Ty.st SN.op))).name):Int) (100000:Int)) (100:Int))/\inR IntKind.i64 (x_1.2+(min (↑(List.length (List.getD (List.getD l (Int.toNat (↑x.1:Int)) (dfl (Ty.st SN.chunk))).ops (Int.toNat (↑x_1.1:Int)) (dfl (Ty.st SN.op))).names):Int) (3000:Int)+min (↑(List.length (List.getD (List.getD l (Int.toNat (↑x.1:Int)) (dfl (Ty.st SN.chunk))).ops (Int.toNat (↑x_1.1:Int)) (dfl (Ty.st SN.op))).tos):Int) (3000:Int)+Int.tdiv (min (↑(List.length (List.getD (List.getD l (Int.toNat (↑x.1:Int)) (dfl (Ty.st SN.chunk))).ops (Int.toNat (↑x_1.1:Int)) (dfl (Ty.st SN.op))).name):Int) (100000:Int)) (100:Int)))/\if decide ((2000:Int) < x_1.2+(min (↑(List.length (List.getD (List.getD l (Int.toNat (↑x.1:Int)) (dfl (Ty.st SN.chunk))).ops (Int.toNat (↑x_1.1:Int)) (dfl (Ty.st SN.op))).names):Int) (3000:Int)+min (↑(List.length (List.getD (List.getD l (Int.toNat (↑x.1:Int)) (dfl (Ty.st SN.chunk))).ops (Int.toNat (↑x_1.1:Int)) (dfl (Ty.st SN.op))).tos):Int) (3000:Int)+Int.tdiv (min (↑(List.length (List.getD (List.getD l (Int.toNat (↑x.1:Int)) (dfl (Ty.st SN.chunk))).ops (Int.toNat (↑x_1.1:Int)) (dfl (Ty.st SN.op))).name):Int) (100000:Int)) (100:Int)))=true then True/\false=cm l (0:Int)/\True else inR IntKind.i64 ((↑x_1.1:Int)+(1:Int))/\∃(y:Nat × Int),(y.1<=List.length (List.getD l (Int.toNat (↑x.1:Int)) default).ops/\(0:Int)<=y.2/\y.2<=(2000:Int)/\cY (List.getD l (Int.toNat (↑x.1:Int)) default).ops (x.2+((1:Int)+min (↑(List.length (List.getD l (Int.toNat (↑x.1:Int)) (dfl (Ty.st SN.chunk))).ops):Int) (3000:Int)))=cY (List.drop y.1 (List.getD l (Int.toNat (↑x.1:Int)) default).ops) y.2)/\List.length (List.getD l (Int.toNat (↑x.1:Int)) default).ops - y.1 < List.length (List.getD l (Int.toNat (↑x.1:Int)) default).ops - x_1.1/\(↑x_1.1:Int)+(1:Int)=(↑y.1:Int)/\x_1.2+(min (↑(List.length (List.getD (List.getD l (Int.toNat (↑x.1:Int)) (dfl (Ty.st SN.chunk))).ops (Int.toNat (↑x_1.1:Int)) (dfl (Ty.st SN.op))).names):Int) (3000:Int)+min (↑(List.length (List.getD (List.getD l (Int.toNat (↑x.1:Int)) (dfl (Ty.st SN.chunk))).ops (Int.toNat (↑x_1.1:Int)) (dfl (Ty.st SN.op))).tos):Int) (3000:Int)+Int.tdiv (min (↑(List.length (List.getD (List.getD l (Int.toNat (↑x.1:Int)) (dfl (Ty.st SN.chunk))).ops (Int.toNat (↑x_1.1:Int)) (dfl (Ty.st SN.op))).name):Int) (100000:Int)) (100:Int))=y.2/\(↑x.1:Int)=(↑x.1:Int)/\l=l/\true=true/\false=false/\True else inR IntKind.i64 ((↑x.1:Int)+(1:Int))/\∃(y:Nat × Int),(y.1<=List.length l/\(0:Int)<=y.2/\y.2<=(2000:Int)/\cm l (0:Int)=cm (List.drop y.1 l) y.2)/\List.length l - y.1 < List.length l - x.1/\(↑x.1:Int)+(1:Int)=(↑y.1:Int)/\x_1.2=y.2/\l=l/\True else True/\true=cm l (0:Int)/\True:=by
 have ln:=hl.len
 have dC:dfl (Ty.st SN.chunk)=(default:Chnk):=rfl
 have dO:dfl (Ty.st SN.op)=(default:Opn):=rfl
 simp only [Int.toNat_natCast,dC,dO]
 refine ⟨⟨(0,0),⟨Nat.zero_le _,by omega,by omega,rfl⟩,by repeat' (first | exact trivial | rfl | apply And.intro)⟩,?_⟩
 rintro ⟨k,n⟩ ⟨k1,k2,k3,k4⟩
 simp only at k1 k2 k3 k4 ⊢
 refine a7 (fun q=>?_) (fun q=>?_)
 ·replace q:=Xo q
  have q:k < l.length:=by omega
  rw [bR l k default q,cm] at k4
  have lo:=(Wf.mem hl (fO l k default q)).chunk_ops
  generalize l.getD k default=C at *
  have sk:n+(1+min (C.ops.length:Int) 3000)=l4 C n:=rfl
  rw [sk]
  refine ⟨⟨by omega,by omega⟩,ak (by omega) (by omega),by rw [←sk];exact ak (by omega) (by omega),a7 (fun m=>?_) (fun m=>?_)⟩
  ·rw [if_pos (Xo m)] at k4
   rw [k4];exact ⟨trivial,rfl,trivial⟩
  have m:¬2000 < l4 C n:=fun z=>m (Xd z)
  rw [if_neg m] at k4
  have m0:0<=l4 C n:=by rw [←sk];omega
  clear sk
  generalize l4 C n=n1 at *
  refine ⟨⟨(0,n1),⟨Nat.zero_le _,m0,by simp only;omega,rfl⟩,by repeat' (first | exact trivial | rfl | apply And.intro)⟩,?_⟩
  rintro ⟨j,z⟩ ⟨j1,j2,j3,j4⟩
  simp only at j1 j2 j3 j4 ⊢
  refine ⟨⟨by omega,by omega⟩,a7 (fun r=>?_) (fun r=>?_)⟩
  ·replace r:=Xo r
   have r:j < C.ops.length:=by omega
   rw [bR C.ops j default r,cY] at j4
   have so:∀O:Opn,min (O.names.length:Int) 3000+min (O.tos.length:Int) 3000+Int.tdiv (min (O.name.length:Int) 100000) 100=gI O:=fun _=>rfl
   rw [so]
   have b:=uG (C.ops.getD j default)
   have bn:0<=Int.tdiv (min ((C.ops.getD j default).name.length:Int) 100000) 100/\Int.tdiv (min ((C.ops.getD j default).name.length:Int) 100000) 100<=1000:=by
    rw [Int.tdiv_eq_ediv_of_nonneg (by omega)];omega
   refine ⟨⟨by omega,by omega⟩,⟨by omega,by omega⟩,⟨by omega,by omega⟩,⟨by omega,by omega⟩,ak (by omega) (by omega),⟨by omega,by omega⟩,⟨by omega,by omega⟩,⟨by omega,ak (by omega) (by omega)⟩,ak (by omega) (by omega),ak (by omega) (by omega),a7 (fun v=>?_) (fun v=>?_)⟩
   ·rw [if_pos (Xo v)] at j4
    rw [j4] at k4
    rw [k4];exact ⟨trivial,rfl,trivial⟩
   ·have v:¬2000 < z+gI (C.ops.getD j default):=fun y=>v (Xd y)
    rw [if_neg v] at j4
    have lp:=lo.len
    exact ⟨ak (by omega) (by omega),(j+1,z+gI (C.ops.getD j default)),⟨r,by simp only;omega,by simp only;omega,j4⟩,by simp only;omega,by simp only;omega,by repeat' (first | exact trivial | rfl | apply And.intro)⟩
  ·replace r:¬(j:Int) < (C.ops.length:Int):=fun y=>r (Xd y)
   rw [List.drop_eq_nil_of_le (by omega),cY] at j4
   rw [j4] at k4
   exact ⟨ak (by omega) (by omega),(k+1,z),⟨q,j2,j3,k4⟩,by simp only;omega,by simp only;omega,by repeat' (first | exact trivial | rfl | apply And.intro)⟩
 ·replace q:¬(k:Int) < (l.length:Int):=fun y=>q (Xd y)
  rw [List.drop_eq_nil_of_le (by omega),cm] at k4
  rw [k4];exact ⟨trivial,rfl,trivial⟩
theorem mJ (E:List Chnk→Str × Int) (M:List Chnk→Bool) (l:List Chnk) (h1:M l=true→hZ l) :
  if (!M l)=true then True/\true=true/\True else hZ l/\hZ l/\if decide ((E l).1=(E l).1)=true then if decide ((E l).2=(E l).2)=true then True/\true=true/\True else True/\false=true/\True else True/\false=true/\True:=by
 refine a7 (fun _=>⟨trivial,rfl,trivial⟩) (fun c=>?_)
 have f:=h1 (by simpa using c)
 exact ⟨f,f,a7 (fun _=>a7 (fun _=>⟨trivial,rfl,trivial⟩) (fun z=>absurd (Xd rfl) z)) (fun z=>absurd (Xd rfl) z)⟩
end Go.AL.Seat
end
section
open Go Go.AL Go.Proofs Go.Shelf Go.Pd
namespace Go.AL.Seat
variable [Tabs]
variable [SeatLaid]
theorem uH:ay Tryz.prog 14 (p1 (.lst (.st .chunk)) fun l=>.ret (.bool (cm l 0))):=
 bU (ee Tryz.func14) fun l hl _=>g0 sn ⟨[(3,fun S0=>⟨Nat × Int,fun x=>x.1<=l.length/\0<=x.2/\x.2<=2000/\cm l 0=cm (l.drop x.1) x.2,fun x=>[(4,.int .i64 x.1),(3,.int .i64 x.2)],fun _=>[],fun x=>l.length - x.1⟩),(9,fun S0=>jo S0 4 fun k0=>jo S0 3 fun n0=>⟨Nat × Int,fun x=>x.1<=(l.getD k0.toNat default).ops.length/\0<=x.2/\x.2<=2000/\cY (l.getD k0.toNat default).ops n0=cY ((l.getD k0.toNat default).ops.drop x.1) x.2,fun x=>[(5,.int .i64 x.1),(3,.int .i64 x.2)],fun _=>[],fun x=>(l.getD k0.toNat default).ops.length - x.1⟩)],[],[]⟩ Tryz.func14 (wx l hl)
theorem kz (E:List Chnk→Str × Int) (M:List Chnk→Bool) (l:List Chnk) (h1:M l=true→hZ l) (hM:ay Tryz.prog 14 (p1 (.lst (.st .chunk)) fun l=>.ret (.bool (M l)))) (hE:ay Tryz.prog 15 (p1 (.lst (.st .chunk)) fun l=>⟨some (hZ l),none,.tup [.str (E l).1,.int .i64 (E l).2],[]⟩)) (hR:ay Tryz.prog 16 (p1 (.lst (.st .chunk)) fun l=>⟨some (hZ l),none,.tup [.str (E l).1,.int .i64 (E l).2],[]⟩)) (hW:ay Tryz.prog 10 (p0 (.ret (.bool true)))):b8 Tryz.prog 4 [.lst (.st .chunk) l none] [] (.ret (.bool true)):=
 g0 (sc (hW) (sc (hM) (sc (hE) (sc (hR) sn)))) a0 Tryz.func4 (mJ E M l h1)
end Go.AL.Seat
end
section
namespace Go.Proofs.YtldkmcedeenlnaaGreatDoor.JCodeEncodes
open Go.AL Go.AL.Seat Go.Pd Go.ChangeShapes Go.WideShapes Go.RowKit Go.Proofs.YtldkmcedeenlnaaGreatDoor.Join
set_option maxRecDepth 1000000
theorem par:Tryz.f4.params=#[31]:=by kernel_rfl
theorem res:Tryz.f4.resultTypes=#[4]:=by kernel_rfl
theorem spec {H:Type} (ds:List (DataW H)) (hd:ds.length=1):Rows.codeEncodesSpec.fn H ds={results:=[.lit (.bool true)],args:=ds}:=by
 match ds,hd with
 | [d0],_=>rfl
theorem BD (H:Type) (enc:TypeId × Value→H) (W:World) (base:Nat) (args:Array Value) (ds gs:List (DataW H)) (before:List MemPlace)
  (hval:∀(j:Nat) t v,Tryz.f4.params[j]?=some t→args[j]?=some v→Value.okWide Tryz.prog W .any base t v)
  (hW:DataW.Whole enc Tryz.prog Tryz.f4.params.toList Rows.codeEncodesSpec.vars false W args.toList ds gs before) (hku:Rows.uptoSmall H (ds++gs)=true) (hL:laidMet Tryz.prog laid W) (hsh:W.ShapedOpen Tryz.prog) :
  Calls Tryz.prog 4 args W fun e W'=>∃v,e=.returned v/\Rows.codeEncodesSpec.post enc Tryz.prog Tryz.f4 false true false false W args v W':=by
 letI:Tabs:=po W
 haveI:SeatLaid:=Am hL hsh
 have hW':=hW
 obtain ⟨p,q,hA,hV,_,_,_⟩:=hW
 rw [par] at hA hval
 obtain ⟨v0,vs0,d0,ds0,p0,q0,hargs0,rfl,rfl,h0,r0⟩:=trodAll_cons hA
 obtain ⟨rfl,rfl,rfl⟩:=trodAll_nil r0
 obtain rfl:args=#[v0]:=by
  have:=congrArg List.toArray hargs0
  simpa using this
 obtain ⟨x0,hx0,hq0⟩:=Ar (yq Tryz.prog) DZ Ci (hval 0 31 v0 rfl rfl) h0 (Au hku (by simp))
 refine (yh (kz fX (fun l=>cm l 0) x0 (fun h=>zh (fun c hc o ho=>hq0 c hc o ho) h) uH jR uF uC) (fun b o v h=>h.2) (fun b x h=>h.2) (VL.cons hx0 .nil)).mono fun e W' ⟨he,hb⟩=>?_
 subst he
 refine ⟨_,rfl,zY (tb:=4) Cg (fun t ht=>?_) rfl (fun ds hd=>spec ds ?_) res undB hW' hb⟩
 ·rw [par] at ht
  have ht:t∈[31]:=ht
  simp only [List.mem_cons,List.not_mem_nil,or_false] at ht
  rcases ht with rfl
  ·exact ⟨E0,Nat.lt_trans (by decide) DV⟩
 ·rw [par] at hd
  exact hd
theorem reads (os:Os) {H:Type} (enc:TypeId × Value→H):(DataW.whole enc Tryz.prog ((ki os).forCall (fun _ _=>0) ⟨#[],#[.slice none 0 0],[]⟩).memory Tryz.f4.params.toList Rows.codeEncodesSpec.vars false [Value.slice none 0 0] 8).map (fun x=>(x.1,x.2.1))=some ([.nil],[]):=by kernel_rfl
theorem DM (os:Os) (started:os.Started) (H:Type) (enc:TypeId × Value→H) (F:Stop.Interp) :
  ReturnsInHanded {} Tryz.checked os 4 .any ((Rows.OpenSpec.upto Rows.codeEncodesSpec).preRow enc Tryz.prog Tryz.f4 Rows.codeEncodesUptoRow.domain false Rows.codeEncodesUptoRow.laid) (((Rows.OpenSpec.upto Rows.codeEncodesSpec).at F).post enc Tryz.prog Tryz.f4 false true false false):=by
 obtain ⟨⟨y1,y2,y3⟩,hx,hy⟩:=Option.map_eq_some_iff.1 (reads os enc)
 simp only [Prod.mk.injEq] at hy
 obtain ⟨rfl,rfl⟩:=hy
 refine returnsInHanded_of_row (C:=Tryz.checked) (s:=Rows.OpenSpec.upto Rows.codeEncodesSpec) own started (by kernel_rfl) Tryz.func4
  (witness_row_atRef (enc:=enc) (C:=Tryz.checked) false (ki os) #[.slice none 0 0] rfl (by kernel_rfl) (by kernel_rfl) (by kernel_rfl)
   (OpenSpec.preRow_of_cond 8 hx (by kernel_rfl) (fun k hk=>by cases hk;kernel_rfl) (by kernel_rfl) (Ao os _))) ?_
 intro W base args ds gs before hval hW _ hku _ hL hsh _
 exact BD H enc W base args ds gs before hval hW (hku _ rfl) hL hsh
theorem c1:(Rows.codeEncodesUptoRow.inPlace ==Tryz.prog.inPlace 4)=true:=by kernel_rfl
theorem c2:(Rows.codeEncodesUptoRow.unfollowed ==Tryz.prog.unfollowed 4)=true:=by kernel_rfl
theorem c3:(Rows.codeEncodesUptoRow.recurses ==Tryz.prog.recurses 4)=true:=by kernel_rfl
theorem c4:(Rows.codeEncodesUptoRow.named ==Tryz.prog.varsNamed 4)=true:=by kernel_rfl
theorem DN:joinedFacts Tryz.prog 4 Tryz.f4 (Rows.OpenSpec.upto Rows.codeEncodesSpec).bare Rows.codeEncodesUptoRow=true:=by
 unfold joinedFacts
 rw [c1,c2,c3,c4]
 kernel_rfl
theorem said:Rows.CodeEncodesUptoSaid:=
 OpenClaim.holds_of_cond 4 Tryz.f4 rfl rfl rfl rfl rfl rfl rfl ⟨rfl,rfl,rfl,rfl,rfl⟩ rfl rfl rfl rfl rfl (by kernel_rfl) Tryz.func4 DN
  (Xo (by kernel_rfl)) (by unfold Func.isWrapper;first | (rw [if_pos (by decide+kernel)];kernel_rfl) | (rw [if_neg (by decide+kernel)];exact ⟨rfl,rfl⟩))
  (fun os started H enc _ F=>by rw [OpenClaim.pre_eq_preRow];exact DM os started H enc F)
theorem de (f:FuncId) (fn:Func) (hf:Tryz.pinned.checked.prog.funcNamed "pandect/pandectlaw31.CodeEncodes"=some f) (hfn:Tryz.pinned.checked.prog.funcs[f]?=some fn) :
  true=Tryz.pinned.checked.prog.looks []/\∀(j:Nat) t,fn.params[j]?=some t→Tryz.pinned.checked.prog.wantsStandIn t=false:=by
 obtain rfl:f=4:=Option.some.inj ((show Tryz.prog.funcNamed "pandect/pandectlaw31.CodeEncodes"=some 4 by kernel_rfl).symm.trans hf) |>.symm
 obtain rfl:fn=Tryz.f4:=(Option.some.inj (Tryz.func4.symm.trans hfn)).symm
 refine ⟨by kernel_rfl,fun j t ht=>?_⟩
 rw [par] at ht
 have ht:=Array.mem_of_getElem? ht
 simp only [List.mem_toArray,List.mem_cons,List.not_mem_nil,or_false] at ht
 rcases ht with rfl
 ·exact (show Tryz.prog.wantsStandIn 31=false by kernel_rfl)
theorem card:Rows.CodeEncodesUptoCardSaid:=
 Claim7.holds_tied_plain_at .later [] _ _ _ _ said (fun _ h=>by cases h) (by kernel_rfl) (fun _ h=>by cases h) codeEncodesUpto_row_tie rfl ⟨rfl,rfl⟩ (by kernel_rfl) rfl de (by kernel_rfl)
end Go.Proofs.YtldkmcedeenlnaaGreatDoor.JCodeEncodes
end
