/- Plain facts. What the functions' conditions say, proved. No condition. -/
import Derived.Test.YtldkmcedeenlnaaGreatDoorT05
import Derived.KernelRfl
import Derived.Sort.Walk0
set_option linter.all false
set_option maxRecDepth 100000
noncomputable section
namespace Go.AL.Seat
open Go Go.AL Go.Proofs Go.Pd
set_option maxRecDepth 1000000
def aw1:Str:=[108,101,116,32,120,32,61,32,49,32,105,110,32,120]
def Ek:AV:=.tup [.lst (.st .token) [⟨5,[108,101,116],0⟩,⟨1,[120],4⟩,⟨6,[61],6⟩,⟨3,[49],8⟩,⟨5,[105,110],10⟩,⟨1,[120],13⟩,⟨0,[],14⟩] none,.agg [.int .i64 0,.int .i64 0]]
variable [Tabs] [SeatLaid]
theorem EH:bd Tryz.prog 40 [.str aw1] [] (.ret Ek):=kC (n:=100) mixed uX qt nC (by kernel_rfl:uB ar qu Cb Ca 5000 (fV rN) 100 40 [.str aw1] []=some ⟨none,none,Ek,[]⟩)
def wX:Trm:=⟨14,[],[120],0,[],[],[],[⟨1,[],[],1,[],[],[],[],8⟩,⟨5,[],[120],0,[],[],[],[],13⟩],0⟩
def awA (t:Trm):AV:=.tup [.agg [.int .i64 t.kind,.str t.pkg,.str t.name,.int .i64 t.n,.nils,.nils,.nils,.lst (.st .term) t.parts none,.int .i64 t.pos],.agg [.int .i64 0,.int .i64 0]]
def Cc:List (Nat × Pat):=(40,xT [.str aw1] Ek) ::rN
theorem zG:bK Tryz.prog (fV Cc):=sc (xU (ee Tryz.func40) EH) qt
theorem EI:bd Tryz.prog 21 [.str aw1] [] (.ret (awA wX)):=kC (n:=100) mixed uX zG nC (by kernel_rfl:uB ar qu Cb Ca 5000 (fV Cc) 100 21 [.str aw1] []=some ⟨none,none,awA wX,[]⟩)
end Go.AL.Seat
end
noncomputable section
namespace Go.AL.Seat
open Go Go.AL Go.Proofs
variable [Tabs]
def bj:List (Nat × TR):=[(3,r2),(26,⟨.strct false [(0,3),(1,9),(2,9),(3,3),(4,22),(5,22),(6,23),(7,24),(8,3)],9,152,[.int .i64 0,.str [],.str [],.int .i64 0,.nils,.nils,.nils,.nils,.int .i64 0],some (.st .term)⟩),(9,r9),(200,ze),(49,⟨.strct false [(0,3),(1,9),(2,9),(3,22),(4,23)],5,88,[.int .i64 0,.str [],.str [],.nils,.nils],some (.st .shape)⟩),(22,⟨.slice 9,1,24,[.nils],some (.lst .str)⟩),(71,r70),(60,⟨.strct false [(0,3),(1,3),(2,9),(3,22),(4,58),(5,3)],6,88,[.int .i64 0,.int .i64 0,.str [],.nils,.nils,.int .i64 0],some (.st .op)⟩),(61,⟨.slice 60,1,24,[.nils],some (.lst (.st .op))⟩),(69,⟨.slice 73,1,24,[.nils],some (.lst (.st .nm))⟩),(24,⟨.slice 26,1,24,[.nils],some (.lst (.st .term))⟩),(23,⟨.slice 49,1,24,[.nils],some (.lst (.st .shape))⟩),(4,⟨.bool,1,1,[.bool false],some .bool⟩),(31,⟨.slice 63,1,24,[.nils],some (.lst (.st .chunk))⟩),(68,r67),(58,⟨.slice 3,1,24,[.nils],some (.lst (.int .i64))⟩),(73,⟨.strct true [(0,9),(1,9)],2,32,[.str [],.str []],some (.st .nm)⟩),(5,r5),(51,⟨.strct false [(0,9),(1,9),(2,49)],7,120,[.str [],.str [],.int .i64 0,.str [],.str [],.nils,.nils],some (.st .bind)⟩),(66,⟨.ptr 31,1,8,[.nilp],none⟩),(63,⟨.strct false [(0,3),(1,61)],2,32,[.int .i64 0,.nils],some (.st .chunk)⟩),(32,r2),(122,⟨.slice 5,1,24,[.nils],some (.lst (.int .u8))⟩),(268,zf),(27,⟨.slice 51,1,24,[.nils],some (.lst (.st .bind))⟩),(110,r1),(203,r1),(46,r1),(20,r20),(267,zf),(48,⟨.strct false [(0,3),(1,9),(2,9),(3,22),(4,23)],5,88,[.int .i64 0,.str [],.str [],.nils,.nils],none⟩),(199,ze),(59,⟨.strct false [(0,3),(1,3),(2,9),(3,22),(4,58),(5,3)],6,88,[.int .i64 0,.int .i64 0,.str [],.nils,.nils,.int .i64 0],none⟩),(67,r67),(72,⟨.strct true [(0,9),(1,9)],2,32,[.str [],.str []],none⟩),(50,⟨.strct false [(0,9),(1,9),(2,49)],7,120,[.str [],.str [],.int .i64 0,.str [],.str [],.nils,.nils],none⟩),(70,r70),(62,⟨.strct false [(0,3),(1,61)],2,32,[.int .i64 0,.nils],none⟩),(25,⟨.strct false [(0,3),(1,9),(2,9),(3,3),(4,22),(5,22),(6,23),(7,24),(8,3)],9,152,[.int .i64 0,.str [],.str [],.int .i64 0,.nils,.nils,.nils,.nils,.int .i64 0],none⟩)]
theorem Cd:aH Tryz.prog bj:=.cons tk (.cons tk (.cons tk (.cons tk (.cons tk (.cons tk (.cons tk (.cons tk (.cons tk (.cons tk (.cons tk (.cons tk (.cons tk (.cons tk (.cons tk (.cons tk (.cons tk (.cons tk (.cons tk (.cons tk (.cons tk (.cons tk (.cons tk (.cons tk (.cons tk (.cons tk (.cons tk (.cons tk (.cons tk (.cons tk (.cons tk (.cons tk (.cons tk (.cons tk (.cons tk (.cons tk (.cons tk (.cons tk (.cons tk (.nil)))))))))))))))))))))))))))))))))))))))
end Go.AL.Seat
end
noncomputable section
namespace Go.AL.Seat
open Go Go.AL Go.Proofs
set_option maxRecDepth 1000000
variable [Tabs]
def El (f:Nat):List (Option Nat):=if Nat.beq f 74 || Nat.beq f 75 then [some 2] else if Nat.beq f 45 || Nat.beq f 87 then [some 1] else []
def Em (f:Nat):Bool:=false
def uY:List (Nat × FB):=(11,au bj Tryz.f11 15746551 [(13,[17])] (fun _=>false) (fun d=>Nat.beq d 17) (fun _=>false) false) ::(22,au bj Tryz.f22 74783 [] (fun _=>false) (fun _=>false) (fun _=>false) false) ::(23,au bj Tryz.f23 686032242260302265618932259388129843 [] (fun _=>false) (fun _=>false) (fun _=>false) false) ::(43,au bj Tryz.f43 2223863 [] (fun _=>false) (fun _=>false) (fun _=>false) false) ::(44,au bj Tryz.f44 7 [] (fun _=>false) (fun _=>false) (fun _=>false) false) ::(45,au bj Tryz.f45 19 [] (fun _=>false) (fun _=>false) (fun _=>false) false) ::(46,au bj Tryz.f46 4294975539 [] (fun _=>false) (fun _=>false) (fun _=>false) false) ::(47,au bj Tryz.f47 8444249301320051 [] (fun _=>false) (fun _=>false) (fun d=>Nat.beq d 39) false) ::(48,au bj Tryz.f48 51 [] (fun _=>false) (fun _=>false) (fun d=>Nat.beq d 49 || Nat.beq d 68) false) ::(49,au bj Tryz.f49 37138201178561408728010064627 [] (fun _=>false) (fun _=>false) (fun d=>Nat.beq d 24 || Nat.beq d 106) false) ::(50,au bj Tryz.f50 7 [] (fun _=>false) (fun _=>false) (fun _=>false) false) ::(51,au bj Tryz.f51 467 [] (fun _=>false) (fun _=>false) (fun _=>false) false) ::(52,au bj Tryz.f52 302379064902644767129997 [] (fun _=>false) (fun _=>false) (fun d=>Nat.beq d 27) false) ::(84,au bj Tryz.f84 3537148372723500476506894142080440715070649430595550180525943565456506895 [] (fun _=>false) (fun _=>false) (fun _=>false) false) ::(85,au bj Tryz.f85 27 [] (fun _=>false) (fun _=>false) (fun _=>false) false) ::(86,au bj Tryz.f86 21 [] (fun _=>false) (fun _=>false) (fun _=>false) false) ::(87,au bj Tryz.f87 5 [] (fun _=>false) (fun _=>false) (fun _=>false) false) ::(123,au bj Tryz.f123 7 [] (fun _=>false) (fun _=>false) (fun _=>false) false) ::(124,au bj Tryz.f124 27 [] (fun _=>false) (fun _=>false) (fun _=>false) false) ::(125,au bj Tryz.f125 7 [] (fun _=>false) (fun _=>false) (fun _=>false) false) ::(126,au bj Tryz.f126 2098133 [] (fun _=>false) (fun _=>false) (fun _=>false) false) ::(127,au bj Tryz.f127 13 [] (fun _=>false) (fun _=>false) (fun _=>false) false) ::(128,au bj Tryz.f128 27 [] (fun _=>false) (fun _=>false) (fun _=>false) false) ::(130,au bj Tryz.f130 15 [] (fun _=>false) (fun _=>false) (fun _=>false) false) ::(129,au bj Tryz.f129 19 [] (fun _=>false) (fun _=>false) (fun _=>false) false) ::(166,au bj Tryz.f166 15 [] (fun _=>false) (fun _=>false) (fun _=>false) false) ::(165,au bj Tryz.f165 19 [] (fun _=>false) (fun _=>false) (fun _=>false) false) ::(160,au bj Tryz.f160 299063 [] (fun _=>false) (fun _=>false) (fun _=>false) false) ::(167,au bj Tryz.f167 7 [] (fun _=>false) (fun _=>false) (fun _=>false) false) ::(141,au bj Tryz.f141 7 [] (fun _=>false) (fun _=>false) (fun _=>false) false) ::(170,au bj Tryz.f170 11 [] (fun _=>false) (fun _=>false) (fun _=>false) false) ::(169,au bj Tryz.f169 19 [] (fun _=>false) (fun _=>false) (fun _=>false) false) ::(171,au bj Tryz.f171 66483 [] (fun _=>false) (fun _=>false) (fun _=>false) false) ::(203,au bj Tryz.f203 66483 [] (fun _=>false) (fun _=>false) (fun _=>false) false) ::(197,au bj Tryz.f197 31 [] (fun _=>false) (fun _=>false) (fun _=>false) false) ::(198,au bj Tryz.f198 2159703 [] (fun _=>false) (fun _=>false) (fun _=>false) false) ::(199,au bj Tryz.f199 10141204803006463002229839257615 [] (fun _=>false) (fun _=>false) (fun _=>false) false) ::(181,au bj Tryz.f181 16883 [] (fun _=>false) (fun _=>false) (fun _=>false) false) ::(205,au bj Tryz.f205 66483 [] (fun _=>false) (fun _=>false) (fun _=>false) false) ::(226,au bj Tryz.f226 33071 [] (fun _=>false) (fun _=>false) (fun _=>false) false) ::(228,au bj Tryz.f228 17 [] (fun _=>false) (fun _=>false) (fun _=>false) false) ::(227,au bj Tryz.f227 246479 [] (fun _=>false) (fun _=>false) (fun _=>false) false) ::(229,au bj Tryz.f229 4444215 [] (fun _=>false) (fun _=>false) (fun _=>false) false) ::(230,au bj Tryz.f230 5 [] (fun _=>false) (fun _=>false) (fun _=>false) false) ::[]
theorem uZ:ab Tryz.prog uY:=ab.cons Tryz.func11 (by kernel_rfl) (ab.cons Tryz.func22 (by kernel_rfl) (ab.cons Tryz.func23 (by kernel_rfl) (ab.cons Tryz.func43 (by kernel_rfl) (ab.cons Tryz.func44 (by kernel_rfl) (ab.cons Tryz.func45 (by kernel_rfl) (ab.cons Tryz.func46 (by kernel_rfl) (ab.cons Tryz.func47 (by kernel_rfl) (ab.cons Tryz.func48 (by kernel_rfl) (ab.cons Tryz.func49 (by kernel_rfl) (ab.cons Tryz.func50 (by kernel_rfl) (ab.cons Tryz.func51 (by kernel_rfl) (ab.cons Tryz.func52 (by kernel_rfl) (ab.cons Tryz.func84 (by kernel_rfl) (ab.cons Tryz.func85 (by kernel_rfl) (ab.cons Tryz.func86 (by kernel_rfl) (ab.cons Tryz.func87 (by kernel_rfl) (ab.cons Tryz.func123 (by kernel_rfl) (ab.cons Tryz.func124 (by kernel_rfl) (ab.cons Tryz.func125 (by kernel_rfl) (ab.cons Tryz.func126 (by kernel_rfl) (ab.cons Tryz.func127 (by kernel_rfl) (ab.cons Tryz.func128 (by kernel_rfl) (ab.cons Tryz.func130 (by kernel_rfl) (ab.cons Tryz.func129 (by kernel_rfl) (ab.cons Tryz.func166 (by kernel_rfl) (ab.cons Tryz.func165 (by kernel_rfl) (ab.cons Tryz.func160 (by kernel_rfl) (ab.cons Tryz.func167 (by kernel_rfl) (ab.cons Tryz.func141 (by kernel_rfl) (ab.cons Tryz.func170 (by kernel_rfl) (ab.cons Tryz.func169 (by kernel_rfl) (ab.cons Tryz.func171 (by kernel_rfl) (ab.cons Tryz.func203 (by kernel_rfl) (ab.cons Tryz.func197 (by kernel_rfl) (ab.cons Tryz.func198 (by kernel_rfl) (ab.cons Tryz.func199 (by kernel_rfl) (ab.cons Tryz.func181 (by kernel_rfl) (ab.cons Tryz.func205 (by kernel_rfl) (ab.cons Tryz.func226 (by kernel_rfl) (ab.cons Tryz.func228 (by kernel_rfl) (ab.cons Tryz.func227 (by kernel_rfl) (ab.cons Tryz.func229 (by kernel_rfl) (ab.cons Tryz.func230 (by kernel_rfl) (ab.nil))))))))))))))))))))))))))))))))))))))))))))
end Go.AL.Seat
end
noncomputable section
namespace Go.AL.Seat
open Go Go.AL Go.Proofs Go.Pd
set_option maxRecDepth 1000000
def awC:List Chnk:=[⟨0,[⟨1,1,[],[],[],8⟩,⟨12,0,[],[],[],0⟩,⟨4,0,[],[],[],13⟩,⟨13,1,[],[],[],0⟩]⟩]
def awB:AV:=.tup [.lst (.st .chunk) awC none,.int .i64 0]
def v7 (t:Trm) (k:Int) (nm:Str) (n pos:Int):Bool:=
 decide (t.kind=k) && t.pkg.isEmpty && decide (t.name=nm) && decide (t.n=n) && t.names.isEmpty && t.vars.isEmpty && t.shapes.isEmpty && decide (t.pos=pos)
theorem qv {t:Trm} {k:Int} {nm:Str} {n pos:Int} (h:v7 t k nm n pos=true):t=⟨k,[],nm,n,[],[],[],t.parts,pos⟩:=by
 simp only [v7,Bool.and_eq_true,decide_eq_true_eq,List.isEmpty_iff] at h
 obtain ⟨⟨⟨⟨⟨⟨⟨h1,h2⟩,h3⟩,h4⟩,h5⟩,h6⟩,h7⟩,h8⟩:=h
 cases t
 simp only at h1 h2 h3 h4 h5 h6 h7 h8
 subst h1 h2 h3 h4 h5 h6 h7 h8
 rfl
def En (t:Trm):Bool:=
 v7 t 14 [120] 0 0 && (match t.parts with | [a,b]=>v7 a 1 [] 1 8 && a.parts.isEmpty && (v7 b 5 [120] 0 13 && b.parts.isEmpty) | _=>false)
theorem Ds {t:Trm} (h:En t=true):t=wX:=by
 unfold En at h
 rw [Bool.and_eq_true] at h
 obtain ⟨h1,h2⟩:=h
 have e:=qv h1
 split at h2
 ·rename_i a b hp
  simp only [Bool.and_eq_true,List.isEmpty_iff] at h2
  obtain ⟨⟨a1,a2⟩,b1,b2⟩:=h2
  have ea:=qv a1
  have eb:=qv b1
  rw [a2] at ea
  rw [b2] at eb
  rw [e,hp,ea,eb]
  rfl
 ·cases h2
variable [Tabs] [SeatLaid]
theorem EJ:bd Tryz.prog 11 [.st .term wX,.lst (.st .bind) [] none] [] (.ret awB):=kC (n:=100) mixed Cd qt uZ (by kernel_rfl:uB bj uY Em El 5000 (fV rN) 100 11 [.st .term wX,.lst (.st .bind) [] none] []=some ⟨none,none,awB,[]⟩)
def DL:Pat:=q2 (.st .term) (.lst (.st .bind)) (fun t l=>En t && l.isEmpty) fun _ _=>awB
theorem Dt:an Tryz.prog 11 DL:=
 rz (O:=fun t l=>t=wX/\l=[]) (eF (ee Tryz.func11) fun t l _ _ ho=>by
  obtain ⟨rfl,rfl⟩:=ho _ rfl
  exact EJ) fun t l q=>by
  rw [Bool.and_eq_true] at q
  exact ⟨Ds q.1,List.isEmpty_iff.1 q.2⟩
end Go.AL.Seat
end
noncomputable section
namespace Go.AL.Seat
open Go Go.AL Go.Proofs
variable [Tabs]
def rO:List (Nat × TR):=[(3,r2),(60,⟨.strct false [(0,3),(1,3),(2,9),(3,22),(4,58),(5,3)],6,88,[.int .i64 0,.int .i64 0,.str [],.nils,.nils,.int .i64 0],some (.st .op)⟩),(32,r2),(9,r9),(61,⟨.slice 60,1,24,[.nils],some (.lst (.st .op))⟩),(31,⟨.slice 63,1,24,[.nils],some (.lst (.st .chunk))⟩),(58,⟨.slice 3,1,24,[.nils],some (.lst (.int .i64))⟩),(22,⟨.slice 9,1,24,[.nils],some (.lst .str)⟩),(63,⟨.strct false [(0,3),(1,61)],2,32,[.int .i64 0,.nils],some (.st .chunk)⟩),(26,⟨.strct false [(0,3),(1,9),(2,9),(3,3),(4,22),(5,22),(6,23),(7,24),(8,3)],9,152,[.int .i64 0,.str [],.str [],.int .i64 0,.nils,.nils,.nils,.nils,.int .i64 0],some (.st .term)⟩),(55,⟨.strct true [(0,32),(1,3)],2,16,[.int .i64 0,.int .i64 0],some (.st .fault)⟩),(23,⟨.slice 49,1,24,[.nils],some (.lst (.st .shape))⟩),(4,⟨.bool,1,1,[.bool false],some .bool⟩),(62,⟨.strct false [(0,3),(1,61)],2,32,[.int .i64 0,.nils],none⟩),(59,⟨.strct false [(0,3),(1,3),(2,9),(3,22),(4,58),(5,3)],6,88,[.int .i64 0,.int .i64 0,.str [],.nils,.nils,.int .i64 0],none⟩),(54,⟨.strct true [(0,32),(1,3)],2,16,[.int .i64 0,.int .i64 0],none⟩),(25,⟨.strct false [(0,3),(1,9),(2,9),(3,3),(4,22),(5,22),(6,23),(7,24),(8,3)],9,152,[.int .i64 0,.str [],.str [],.int .i64 0,.nils,.nils,.nils,.nils,.int .i64 0],none⟩),(24,⟨.slice 26,1,24,[.nils],some (.lst (.st .term))⟩),(49,⟨.strct false [(0,3),(1,9),(2,9),(3,22),(4,23)],5,88,[.int .i64 0,.str [],.str [],.nils,.nils],some (.st .shape)⟩),(48,⟨.strct false [(0,3),(1,9),(2,9),(3,22),(4,23)],5,88,[.int .i64 0,.str [],.str [],.nils,.nils],none⟩)]
theorem Ce:aH Tryz.prog rO:=.cons tk (.cons tk (.cons tk (.cons tk (.cons tk (.cons tk (.cons tk (.cons tk (.cons tk (.cons tk (.cons tk (.cons tk (.cons tk (.cons tk (.cons tk (.cons tk (.cons tk (.cons tk (.cons tk (.cons tk (.nil))))))))))))))))))))
end Go.AL.Seat
end
noncomputable section
namespace Go.AL.Seat
open Go Go.AL Go.Proofs
set_option maxRecDepth 1000000
variable [Tabs]
def Eo (f:Nat):List (Option Nat):=[]
def Ep (f:Nat):Bool:=false
def v8:List (Nat × FB):=(10,au rO Tryz.f10 1023 [] (fun _=>false) (fun _=>false) (fun _=>false) false) ::(13,au rO Tryz.f13 2361185502030729349235 [] (fun _=>false) (fun _=>false) (fun d=>Nat.beq d 70) false) ::(26,au rO Tryz.f26 288266660035428415 [] (fun _=>false) (fun _=>false) (fun _=>false) false) ::(59,au rO Tryz.f59 33571891 [] (fun _=>false) (fun _=>false) (fun _=>false) false) ::[]
theorem va:ab Tryz.prog v8:=ab.cons Tryz.func10 (by kernel_rfl) (ab.cons Tryz.func13 (by kernel_rfl) (ab.cons Tryz.func26 (by kernel_rfl) (ab.cons Tryz.func59 (by kernel_rfl) (ab.nil))))
end Go.AL.Seat
end
noncomputable section
namespace Go.AL.Seat
open Go Go.AL Go.Proofs Go.Pd
set_option maxRecDepth 1000000
variable [Tabs] [SeatLaid]
def Cf (l:List Chnk):Bool:=Nat.ble (kJ l).length 8796093022208
theorem vb {l:List Chnk} (h:Cf l=true):kK l:=Nat.le_of_ble_eq_true h
def DM:List (Nat × Pat):=[(21,xT [.str aw1] (awA wX)),(11,DL),
 (15,q1 (.lst (.st .chunk)) Cf fun l=>.tup [.str (db l).1,.int .i64 (db l).2]),
 (17,q1 .str (fun s=>Nat.ble s.length 68719476736) fun s=>.tup [.lst (.st .chunk) (dD s).1 none,.int .i64 (dD s).2]),
 (19,q2 (.lst (.st .chunk)) (.int .i64) (fun l _=>Cf l) fun l n=>.int .i64 (iw l n))]
theorem Cg:bK Tryz.prog (fV DM):=sc (xU (ee Tryz.func21) EI) (sc Dt
 (sc (Bu nA fun _ h=>vb h) (sc (Bu nB fun _ h=>Nat.le_of_ble_eq_true h) (sc (rz nz fun _ _ h=>vb h) sn))))
theorem vc:an Tryz.prog 10 (p0 (.ret (.bool true))):=
 EG (ee Tryz.func10) (kC (n:=20) mixed Ce Cg va (by kernel_rfl:uB rO v8 Ep Eo 50 (fV DM) 20 10 [] []=some ⟨none,none,.bool true,[]⟩))
end Go.AL.Seat
end
section
namespace Go.Pd
open Go.AL
def dh:Str→Nat
 | []=>0
 | b ::r=>if dK (bI b)=true then dh r+1 else 0
theorem rP:∀s:Str,(dh s=s.length↔(s.all fun c=>dK (bI c))=true)
 | []=>by simp [dh]
 | b ::r=>by
  simp only [dh,List.length_cons,List.all_cons,Bool.and_eq_true]
  by_cases h:dK (bI b)=true
  ·rw [if_pos h,←rP r]
   constructor
   ·intro e;exact ⟨h,by omega⟩
   ·rintro ⟨_,e⟩;omega
  ·rw [if_neg h]
   constructor
   ·intro e;omega
   ·rintro ⟨e,_⟩;exact absurd e h
theorem nD (first:Int→Bool) (s:Str):cw first s=(!decide (s=[]) && decide (s.length<=24) && first (bI (s.getD 0 0)) && decide (dh s=s.length)):=by
 unfold cw
 congr 1
 rw [Bool.eq_iff_iff,decide_eq_true_eq]
 exact (rP s).symm
end Go.Pd
end
section
open Go Go.AL Go.Pd
namespace Go.AL.Seat
theorem zH (c:Int)  :
  if decide ((97:Int)<=c)=true then True/\decide (c<=(122:Int))=bT c/\True else True/\false=bT c/\True:=by
 simp only [true_and,and_true]
 unfold bT
 by_cases h:(97:Int)<=c
 ·rw [if_pos (Xd h)];simp [h]
 ·rw [if_neg (by simpa using h)];simp [h]
theorem zI (c:Int)  :
  if decide ((65:Int)<=c)=true then True/\decide (c<=(90:Int))=bY c/\True else True/\false=bY c/\True:=by
 simp only [true_and,and_true]
 unfold bY
 by_cases h:(65:Int)<=c
 ·rw [if_pos (Xd h)];simp [h]
 ·rw [if_neg (by simpa using h)];simp [h]
theorem zJ (c:Int)  :
  if decide ((48:Int)<=c)=true then True/\decide (c<=(57:Int))=fa c/\True else True/\false=fa c/\True:=by
 simp only [true_and,and_true]
 unfold fa
 by_cases h:(48:Int)<=c
 ·rw [if_pos (Xd h)];simp [h]
 ·rw [if_neg (by simpa using h)];simp [h]
theorem Ch (s:Str) (hs:Wf .str s) :
  let A:=(0:Int);let B:=s=s/\A=A/\True;let C:=(↑(List.length s):Int);let D:=(0:UInt8);let E:=(1:Int);let F:=(↑(dh s):Int);(∃(x:Nat),(x<=List.length s/\dh s=x+dh (List.drop x s))/\A=(↑x:Int)/\B)/\∀(x:Nat),let G:=(↑x:Int);let H:=A<=G/\G<C;let I:=(↑(UInt8.toNat (List.getD s (Int.toNat G) D)):Int);let J:=inR IntKind.i64 (G+E)/\∃(y:Nat),(y<=List.length s/\dh s=y+dh (List.drop y s))/\List.length s - y<List.length s - x/\G+E=(↑y:Int)/\B;let K:=True/\G=F/\True;x<=List.length s/\dh s=x+dh (List.drop x s)→if decide (G<C)=true then H/\if bT I=true then J else H/\if bY I=true then J else H/\if fa I=true then J else H/\if decide (I=(95:Int))=true then J else K else K:=by
 conv=>zeta
 have ln:=hs.str
 have eb:∀b:UInt8,(b.toNat:Int)=bI b:=fun _=>rfl
 simp only [Int.toNat_natCast,eq_self,true_and,and_true,eb]
 refine ⟨⟨0,⟨Nat.zero_le _,by simp⟩,rfl⟩,?_⟩
 rintro k ⟨h1,h2⟩
 refine a7 (fun h=>?_) (fun h=>?_)
 ·replace h:=Xo h
  have hk:k < s.length:=by omega
  rw [bS s k 0 hk] at h2
  simp only [dh] at h2
  have fin:dK (bI (s.getD k 0))=true→(inR IntKind.i64 ((k:Int)+1)/\∃y:Nat,(y<=s.length/\dh s=y+dh (s.drop y))/\s.length - y < s.length - k/\(k:Int)+1=(y:Int)):=by
   intro e
   rw [if_pos e] at h2
   exact ⟨kA hk ln,k+1,⟨by omega,by omega⟩,by omega,by omega⟩
  have hr:dK (bI (s.getD k 0))=(bT (bI (s.getD k 0)) || bY (bI (s.getD k 0)) || fa (bI (s.getD k 0)) || decide (bI (s.getD k 0)=95)):=rfl
  refine ⟨by omega,a7 (fun a=>fin (by rw [hr,a];simp)) (fun a=>⟨by omega,a7 (fun b=>fin (by rw [hr,b];simp)) (fun b=>⟨by omega,a7 (fun c=>fin (by rw [hr,c];simp)) (fun c=>⟨by omega,a7 (fun d=>fin (by rw [hr,d];simp)) (fun d=>?_)⟩)⟩)⟩)⟩
  rw [if_neg ?_] at h2
  ·omega
  ·rw [hr];simp only [Bool.not_eq_true] at a b c d;rw [a,b,c,d];simp
 ·replace h:¬((k:Int) < (s.length:Int)):=fun e=>h (Xd e)
  have e:k=s.length:=by omega
  subst e
  rw [List.drop_length] at h2
  simp only [dh] at h2
  omega
theorem Ci (s:Str) (l:List Str) (hl:Wf (.lst .str) l) :
  let A:=s=s/\l=l/\True;let B:=(↑(List.length l):Int);(∃(x:Nat),(x<=List.length l/\decide (s∈l)=decide (s∈List.drop x l))/\(0:Int)=(↑x:Int)/\A)/\∀(x:Nat),let C:=(↑x:Int);x<=List.length l/\decide (s∈l)=decide (s∈List.drop x l)→if decide (C<B)=true then ((0:Int)<=C/\C<B)/\if decide (s=List.getD l (Int.toNat C) (dfl Ty.str))=true then True/\true=decide (s∈l)/\True else inR IntKind.i64 (C+(1:Int))/\∃(y:Nat),(y<=List.length l/\decide (s∈l)=decide (s∈List.drop y l))/\List.length l - y<List.length l - x/\C+(1:Int)=(↑y:Int)/\A else True/\false=decide (s∈l)/\True:=by
 conv=>zeta
 have ln:=hl.len
 simp only [Int.toNat_natCast,eq_self,true_and,and_true]
 refine ⟨⟨0,⟨Nat.zero_le _,by simp⟩,rfl⟩,?_⟩
 rintro k ⟨h1,h2⟩
 refine a7 (fun h=>?_) (fun h=>?_)
 ·replace h:=Xo h
  have hk:k < l.length:=by omega
  rw [bS l k (dfl .str) hk] at h2
  refine ⟨by omega,a7 (fun a=>?_) (fun a=>?_)⟩
  ·rw [h2,Xo a];simp
  ·refine ⟨kA hk ln,k+1,⟨by omega,?_⟩,by omega,by omega⟩
   rw [h2,decide_eq_decide,List.mem_cons]
   constructor
   ·rintro (h | h)
    ·exact absurd (Xd h) a
    ·exact h
   ·exact Or.inr
 ·replace h:¬((k:Int) < (l.length:Int)):=fun e=>h (Xd e)
  have e:k=l.length:=by omega
  subst e
  rw [h2,List.drop_length];simp
theorem Cj (s:Str)  :
  let A:=101;True/\decide (s∈[([109,111,100,117,108,A]:Str),([105,109,112,111,114,116]:Str),([112,105,110]:Str),([114,97,110,103,A]:Str),([116,121,112,A]:Str),([111,112,97,113,117,A]:Str),([108,A,116]:Str),([105,110]:Str),([A,120,112,111,114,116]:Str),([102,117,110]:Str),([105,102]:Str),([116,104,A,110]:Str),([A,108,115,A]:Str),([99,97,115,A]:Str),([111,102]:Str),([97,115]:Str),([110,A,119]:Str),([114,97,119]:Str),([116,114,117,A]:Str),([102,97,108,115,A]:Str)])=lS s/\True:=by
 conv=>zeta
 exact ⟨trivial,rfl,trivial⟩
theorem Ck (s:Str)  :
  let A:=(↑(List.length s):Int);let B:=(0:Int);let C:=True/\false=bZ s/\True;if (!decide (s=[]))=true then if decide (A<=(24:Int))=true then (B<=B/\B<A)/\if bT (↑(UInt8.toNat (List.getD s (Int.toNat B) (0:UInt8))):Int)=true then if decide ((↑(dh s):Int)=A)=true then True/\(!lS s)=bZ s/\True else C else C else C else C:=by
 conv=>zeta
 have eb:∀b:UInt8,(b.toNat:Int)=bI b:=fun _=>rfl
 simp only [Int.toNat_natCast,Int.toNat_zero,eq_self,true_and,and_true,eb]
 have hF:bZ s=(!decide (s=[]) && decide (s.length<=24) && bT (bI (s.getD 0 0)) && decide (dh s=s.length) && !lS s):=by unfold bZ;rw [nD]
 refine a7 (fun a=>?_) (fun a=>?_)
 ·have a':decide (s=[])=false:=by simpa using a
  have hpos:0 < s.length:=List.length_pos_iff.2 (of_decide_eq_false a')
  refine a7 (fun b=>?_) (fun b=>?_)
  ·have b':s.length<=24:=by have:=Xo b;omega
   refine ⟨by omega,a7 (fun c=>?_) (fun c=>?_)⟩
   ·refine a7 (fun d=>?_) (fun d=>?_)
    ·have d':dh s=s.length:=by have:=Xo d;omega
     rw [hF,a',c,d'];simp [b']
    ·have d':¬dh s=s.length:=fun e=>d (Xd (by omega))
     rw [hF];simp [d']
   ·simp only [Bool.not_eq_true] at c
    rw [hF,c];simp
  ·have b':¬s.length<=24:=fun e=>b (Xd (by omega))
   rw [hF];simp [b']
 ·have a':decide (s=[])=true:=by simpa using a
  rw [hF,a'];simp
theorem zK (s:Str)  :
  let A:=(↑(List.length s):Int);let B:=(0:Int);let C:=True/\false=fb s/\True;if (!decide (s=[]))=true then if decide (A<=(24:Int))=true then (B<=B/\B<A)/\if bY (↑(UInt8.toNat (List.getD s (Int.toNat B) (0:UInt8))):Int)=true then True/\decide ((↑(dh s):Int)=A)=fb s/\True else C else C else C:=by
 conv=>zeta
 have eb:∀b:UInt8,(b.toNat:Int)=bI b:=fun _=>rfl
 simp only [Int.toNat_natCast,Int.toNat_zero,eq_self,true_and,and_true,eb]
 have hF:fb s=(!decide (s=[]) && decide (s.length<=24) && bY (bI (s.getD 0 0)) && decide (dh s=s.length)):=by unfold fb;rw [nD]
 refine a7 (fun a=>?_) (fun a=>?_)
 ·have a':decide (s=[])=false:=by simpa using a
  have hpos:0 < s.length:=List.length_pos_iff.2 (of_decide_eq_false a')
  refine a7 (fun b=>?_) (fun b=>?_)
  ·have b':s.length<=24:=by have:=Xo b;omega
   refine ⟨by omega,a7 (fun c=>?_) (fun c=>?_)⟩
   ·rw [hF,a',c]
    simp [b',Int.ofNat_inj]
   ·simp only [Bool.not_eq_true] at c
    rw [hF,c];simp
  ·have b':¬s.length<=24:=fun e=>b (Xd (by omega))
   rw [hF];simp [b']
 ·have a':decide (s=[])=true:=by simpa using a
  rw [hF,a'];simp
theorem zL (l:List Str) (hl:Wf (.lst .str) l) :
  let A:=(0:Int);let B:=True;let C:=(↑(List.length l):Int);let D:=dfl Ty.str;let E:=B/\false=dq l/\B;let F:=l=l/\true=true/\false=false/\B;let G:=(1:Int);(∃(x:Nat),let H:=List.take x l;(x<=List.length l/\List.all H bZ=true/\List.Nodup H)/\A=(↑x:Int)/\l=l/\B)/\∀(x:Nat),let H:=List.take x l;let I:=(↑x:Int);let J:=A<=I/\I<C;let K:=Int.toNat I;x<=List.length l/\List.all H bZ=true/\List.Nodup H→if decide (I<C)=true then J/\if (!bZ (List.getD l K D))=true then E else (∃(x_1:Nat),(x_1<=Int.toNat I/\∀(k:Nat),k<x_1→List.getD l k []≠List.getD l K [])/\A=(↑x_1:Int)/\I=I/\F)/\∀(x_1:Nat),let L:=(↑x_1:Int);(x_1<=Int.toNat I/\∀(k:Nat),k<x_1→List.getD l k []≠List.getD l K [])→if decide (L<I)=true then (A<=L/\L<C)/\J/\if decide (List.getD l (Int.toNat L) D=List.getD l K D)=true then E else inR IntKind.i64 (L+G)/\∃(y:Nat),(y<=Int.toNat I/\∀(k:Nat),k<y→List.getD l k []≠List.getD l K [])/\Int.toNat I - y<Int.toNat I - x_1/\L+G=(↑y:Int)/\I=I/\F else inR IntKind.i64 (I+G)/\∃(y:Nat),let M:=List.take y l;(y<=List.length l/\List.all M bZ=true/\List.Nodup M)/\List.length l - y<List.length l - x/\I+G=(↑y:Int)/\l=l/\B else B/\true=dq l/\B:=by
 conv=>zeta
 have ln:=hl.len
 have dS:dfl Ty.str=([]:Str):=rfl
 simp only [Int.toNat_natCast,dS]
 refine ⟨⟨0,⟨Nat.zero_le _,by simp,by simp⟩,by repeat' (first | exact trivial | rfl | apply And.intro)⟩,?_⟩
 rintro i ⟨h1,h2,h3⟩
 refine a7 (fun h=>?_) (fun h=>?_)
 ·replace h:=Xo h
  have h:i < l.length:=by omega
  have hg:=gH l i [] h
  have hm:l.getD i []∈l:=fW l i [] h
  refine ⟨⟨by omega,by omega⟩,a7 (fun m=>?_) (fun m=>?_)⟩
  ·have m:bZ (l.getD i [])=false:=by simpa using m
   refine ⟨trivial,?_,trivial⟩
   unfold dq
   have:l.all bZ=false:=by
    rw [List.all_eq_false]
    exact ⟨_,hm,by rw [m];simp⟩
   rw [this];rfl
  ·have m:bZ (l.getD i [])=true:=by simpa using m
   refine ⟨⟨0,⟨Nat.zero_le _,fun k hk=>by omega⟩,by repeat' (first | exact trivial | rfl | apply And.intro)⟩,?_⟩
   rintro j ⟨j1,j2⟩
   refine a7 (fun q=>?_) (fun q=>?_)
   ·replace q:=Xo q
    have q:j < i:=by omega
    refine ⟨⟨by omega,by omega⟩,⟨by omega,by omega⟩,a7 (fun v=>?_) (fun v=>?_)⟩
    ·have v:=Xo v
     refine ⟨trivial,?_,trivial⟩
     unfold dq
     have:¬l.Nodup:=fun nd=>by
      rw [dr _ _ _ h,dr _ _ _ (show j < l.length by omega)] at v
      exact (List.pairwise_iff_getElem.1 nd) j i (by omega) h q v
     rw [Xf this,Bool.and_false]
    ·have v:l.getD j []≠l.getD i []:=fun z=>v (Xd z)
     exact ⟨ag (by omega) (by omega),j+1,⟨by omega,fun k hk=>by
      rcases Nat.lt_or_ge k j with c | c
      ·exact j2 k c
      ·rw [show k=j by omega];exact v⟩,by omega,by omega,by repeat' (first | exact trivial | rfl | apply And.intro)⟩
   ·replace q:¬(j:Int) < (i:Int):=fun z=>q (Xd z)
    have q:j=i:=by omega
    subst q
    refine ⟨ag (by omega) (by omega),j+1,⟨by omega,by rw [hg,List.all_append,h2];simp only [List.all_cons,List.all_nil,m];rfl,?_⟩,by omega,by omega,by repeat' (first | exact trivial | rfl | apply And.intro)⟩
    rw [hg,List.nodup_append]
    refine ⟨h3,by simp,fun a ha b hb=>?_⟩
    rw [List.mem_singleton] at hb
    subst hb
    obtain ⟨k,hk,e⟩:=List.mem_iff_getElem.1 ha
    rw [List.length_take] at hk
    rw [List.getElem_take] at e
    have:=j2 k (by omega)
    rw [dr _ _ _ (show k < l.length by omega),e] at this
    exact this
 ·replace h:¬(i:Int) < (l.length:Int):=fun q=>h (Xd q)
  have h:i=l.length:=by omega
  subst h
  rw [List.take_length] at h2 h3
  refine ⟨trivial,?_,trivial⟩
  unfold dq
  rw [h2,Xd h3];rfl
theorem wY (o:Opn) (ho:Wf (.st .op) o) :
  let A:=(0:Int);let B:=True;let C:=B/\false=bL o/\B;let D:=(1:Int);let E:=(↑(List.length o.names):Int);let F:=(↑(List.length o.tos):Int);let G:=B/\decide (F=A)=bL o/\B;let H:=if decide (E=A)=true then G else C;let I:=if decide (o.name=[])=true then H else C;let J:=if decide (A<=o.n)=true then I else C;let K:=if decide (o.n=A)=true then if bZ o.name=true then H else C else C;let L:=if decide (o.n=A)=true then if fb o.name=true then H else C else C;if decide (o.pos<A)=true then C else if decide (o.kind<D)=true then C else if decide ((18:Int)<o.kind)=true then C else if decide (o.kind=D)=true then J else if decide (o.kind=(4:Int))=true then J else if decide (o.kind=(6:Int))=true then J else if decide (o.kind=(7:Int))=true then J else if decide (o.kind=(11:Int))=true then J else if decide (o.kind=(13:Int))=true then J else if decide (o.kind=(14:Int))=true then J else if decide (o.kind=(15:Int))=true then J else if decide (o.kind=(3:Int))=true then if decide (o.n=A)=true then I else if decide (o.n=D)=true then I else C else if decide (o.kind=(5:Int))=true then if decide (o.n=(110:Int))=true then I else C else if decide (o.kind=(2:Int))=true then if decide (o.n=A)=true then H else C else if decide (o.kind=(9:Int))=true then K else if decide (o.kind=(10:Int))=true then K else if decide (o.kind=(17:Int))=true then L else if decide (o.kind=(18:Int))=true then L else if decide (o.kind=(8:Int))=true then if decide (o.n=A)=true then if decide (o.name=[])=true then if dq o.names=true then G else C else C else C else if decide (o.kind=(16:Int))=true then if decide (o.n=A)=true then if decide (o.name=[])=true then if dq o.names=true then B/\decide (F=E)=bL o/\B else C else C else C else if decide (o.n=A)=true then I else C:=by
 conv=>zeta
 refine a7 (fun h=>?_) (fun h=>?_)
 ·rw [kd (.inl (Xo h))];exact ⟨trivial,rfl,trivial⟩
 replace h:¬o.pos < 0:=fun q=>h (Xd q)
 refine a7 (fun h2=>?_) (fun h2=>?_)
 ·rw [kd (.inr (.inl (Xo h2)))];exact ⟨trivial,rfl,trivial⟩
 replace h2:¬o.kind < 1:=fun q=>h2 (Xd q)
 refine a7 (fun h3=>?_) (fun h3=>?_)
 ·rw [kd (.inr (.inr (Xo h3)))];exact ⟨trivial,rfl,trivial⟩
 replace h3:¬18 < o.kind:=fun q=>h3 (Xd q)
 repeat' (first | exact trivial | rfl | refine a7 (fun _=>?_) (fun _=>?_) | refine And.intro ?_ ?_)
 all_goals (simp_all [bL,ib,is8,isB,isU,isR,toN] <;> first | omega | (intro hn;simp_all [dq];done) | (rw [show o.kind=12 by omega];simp))
theorem zM (o:Opn) (s:Rstt) (b:Int)  :
  let A:=(1:Int);let B:=(0:Int);let C:=True;let D:=aJ o s b;let E:=C/\s=D.1/\false=D.2/\C;let F:=true=D.1.known;let G:=s.things - B;let H:=IntKind.wrap IntKind.i64 (IntKind.wrap IntKind.i64 G+A)=D.1.things;let I:=true=D.2/\C;let J:=IntKind.wrap IntKind.i64 (s.names+A)=D.1.names/\I;let K:=C/\F/\H/\J;let L:=(↑(List.length o.names):Int);let M:=s.names=D.1.names/\I;let N:=C/\F/\H/\M;let O:=if decide (s.things<B)=true then E else if decide (o.kind=(12:Int))=true then K else if decide (o.kind=(16:Int))=true then if decide (B<L)=true then K else N else N;let P:=IntKind.wrap IntKind.i64 (IntKind.wrap IntKind.i64 (s.things - IntKind.wrap IntKind.i64 (o.n+A))+A)=D.1.things;let Q:=C/\F/\P/\J;let R:=C/\F/\P/\M;let S:=IntKind.wrap IntKind.i64 (IntKind.wrap IntKind.i64 (s.things - L)+A)=D.1.things;let T:=C/\F/\S/\J;let U:=C/\F/\S/\M;let V:=IntKind.wrap IntKind.i64 (IntKind.wrap IntKind.i64 (s.things - o.n)+A)=D.1.things;let W:=C/\F/\V/\J;let X:=C/\F/\V/\M;let Y:=s.things - A;let Z:=IntKind.wrap IntKind.i64 (IntKind.wrap IntKind.i64 Y+A)=D.1.things;let a:=C/\F/\Z/\J;let c:=C/\F/\Z/\M;let d:=if decide (s.things<A)=true then E else if decide (o.kind=(12:Int))=true then a else if decide (o.kind=(16:Int))=true then if decide (B<L)=true then a else c else c;let e:=IntKind.wrap IntKind.i64 (IntKind.wrap IntKind.i64 Y+B)=D.1.things;let f:=C/\F/\e/\J;let g:=C/\F/\e/\M;let h:=if decide (s.things<A)=true then E else if decide (o.kind=(12:Int))=true then f else if decide (o.kind=(16:Int))=true then if decide (B<L)=true then f else g else g;let i:=IntKind.wrap IntKind.i64 (IntKind.wrap IntKind.i64 G+B)=D.1.things;let j:=C/\F/\i/\J;let k:=C/\F/\i/\M;if decide (o.kind=A)=true then O else if decide (o.kind=(2:Int))=true then O else if decide (o.kind=(3:Int))=true then O else if decide (o.kind=(6:Int))=true then O else if decide (o.kind=(5:Int))=true then O else if decide (o.kind=(4:Int))=true then if decide (s.names<=o.n)=true then E else O else if decide (o.kind=(7:Int))=true then if decide (s.things<=o.n)=true then E else if decide (s.things<IntKind.wrap IntKind.i64 (o.n+A))=true then E else if decide (o.kind=(12:Int))=true then Q else if decide (o.kind=(16:Int))=true then if decide (B<L)=true then Q else R else R else if decide (o.kind=(8:Int))=true then if decide (s.things<L)=true then E else if decide (o.kind=(12:Int))=true then T else if decide (o.kind=(16:Int))=true then if decide (B<L)=true then T else U else U else if decide (o.kind=(11:Int))=true then if decide (s.things<o.n)=true then E else if decide (o.kind=(12:Int))=true then W else if decide (o.kind=(16:Int))=true then if decide (B<L)=true then W else X else X else if decide (o.kind=(9:Int))=true then d else if decide (o.kind=(10:Int))=true then d else if decide (o.kind=(17:Int))=true then d else if decide (o.kind=(18:Int))=true then d else if decide (o.kind=(16:Int))=true then if decide (L=B)=true then d else h else if decide (o.kind=(12:Int))=true then h else if decide (o.kind=(14:Int))=true then h else if decide (o.kind=(13:Int))=true then if decide (IntKind.wrap IntKind.i64 (s.names - b)<o.n)=true then E else C/\F/\s.things=D.1.things/\IntKind.wrap IntKind.i64 (s.names - o.n)=D.1.names/\I else if decide (s.things<B)=true then E else if decide (o.kind=(12:Int))=true then j else if decide (o.kind=(16:Int))=true then if decide (B<L)=true then j else k else k:=by
 conv=>zeta
 have dk:∀{a:Int},(decide (o.kind=a))=true→o.kind=a:=fun z=>Xo z
 refine a7 (fun z=>?_) (fun z1=>?_)
 ·have z:=dk z
  exact b9 (dE z) (fun y=>by omega) (fun y=>by omega) (by omega)
 refine a7 (fun z=>?_) (fun z2=>?_)
 ·have z:=dk z
  exact b9 (dE z) (fun y=>by omega) (fun y=>by omega) (by omega)
 refine a7 (fun z=>?_) (fun z3=>?_)
 ·have z:=dk z
  exact b9 (dE z) (fun y=>by omega) (fun y=>by omega) (by omega)
 refine a7 (fun z=>?_) (fun z6=>?_)
 ·have z:=dk z
  exact b9 (dE z) (fun y=>by omega) (fun y=>by omega) (by omega)
 refine a7 (fun z=>?_) (fun z5=>?_)
 ·have z:=dk z
  exact b9 (dE z) (fun y=>by omega) (fun y=>by omega) (by omega)
 refine a7 (fun z=>?_) (fun z4=>?_)
 ·have z:=dk z
  refine a7 (fun y=>?_) (fun y=>?_)
  ·have e:aJ o s b=(s,false):=by unfold aJ;rw [if_pos ⟨z,Xo y⟩]
   rw [e];exact ⟨trivial,rfl,rfl,trivial⟩
  ·exact b9 (dE z) (fun x=>y (Xd x.2)) (fun y=>by omega) (by omega)
 refine a7 (fun z=>?_) (fun z7=>?_)
 ·have z:=dk z
  refine a7 (fun y=>?_) (fun y=>?_)
  ·have e:aJ o s b=(s,false):=by unfold aJ;rw [if_neg (fun x=>by omega),if_pos ⟨z,Xo y⟩]
   rw [e];exact ⟨trivial,rfl,rfl,trivial⟩
  ·exact b9 (dE z) (fun y=>by omega) (fun x=>y (Xd x.2)) (by omega)
 refine a7 (fun z=>?_) (fun z8=>?_)
 ·have z:=dk z
  exact b9 (dE z) (fun y=>by omega) (fun y=>by omega) (by omega)
 refine a7 (fun z=>?_) (fun z11=>?_)
 ·have z:=dk z
  exact b9 (dE z) (fun y=>by omega) (fun y=>by omega) (by omega)
 refine a7 (fun z=>?_) (fun z9=>?_)
 ·have z:=dk z
  exact b9 (dE z) (fun y=>by omega) (fun y=>by omega) (by omega)
 refine a7 (fun z=>?_) (fun z10=>?_)
 ·have z:=dk z
  exact b9 (dE z) (fun y=>by omega) (fun y=>by omega) (by omega)
 refine a7 (fun z=>?_) (fun z17=>?_)
 ·have z:=dk z
  exact b9 (dE z) (fun y=>by omega) (fun y=>by omega) (by omega)
 refine a7 (fun z=>?_) (fun z18=>?_)
 ·have z:=dk z
  exact b9 (dE z) (fun y=>by omega) (fun y=>by omega) (by omega)
 refine a7 (fun z=>?_) (fun z16=>?_)
 ·have z:=dk z
  refine a7 (fun y=>?_) (fun y=>?_)
  ·exact b9 ((dE z).trans (if_pos (show o.names.length=0 by have:=Xo y;omega))) (fun y=>by omega) (fun y=>by omega) (by omega)
  ·exact b9 ((dE z).trans (if_neg (show ¬o.names.length=0 from fun x=>y (Xd (by omega))))) (fun y=>by omega) (fun y=>by omega) (by omega)
 refine a7 (fun z=>?_) (fun z12=>?_)
 ·have z:=dk z
  exact b9 (dE z) (fun y=>by omega) (fun y=>by omega) (by omega)
 refine a7 (fun z=>?_) (fun z14=>?_)
 ·have z:=dk z
  exact b9 (dE z) (fun y=>by omega) (fun y=>by omega) (by omega)
 refine a7 (fun z=>?_) (fun z13=>?_)
 ·have z:=dk z
  have e:aJ o s b=if IntKind.i64.wrap (s.names - b) < o.n then (s,false) else (⟨true,s.things,IntKind.i64.wrap (s.names - o.n)⟩,true):=by unfold aJ;rw [if_neg (fun x=>by omega),if_neg (fun x=>by omega),if_pos z]
  rw [e]
  refine a7 (fun y=>?_) (fun y=>?_)
  ·rw [if_pos (Xo y)];exact ⟨trivial,rfl,rfl,trivial⟩
  ·rw [if_neg (fun x=>y (Xd x))];exact ⟨trivial,rfl,rfl,rfl,rfl,trivial⟩
 have nk:∀{a:Int},¬(decide (o.kind=a))=true→¬o.kind=a:=fun z y=>z (Xd y)
 have e0:aY o=(0,0):=by
  unfold aY is6 is4 is2
  simp only [nk z1,nk z2,nk z3,nk z4,nk z5,nk z6,nk z7,nk z8,nk z9,nk z10,nk z11,nk z12,nk z14,nk z16,nk z17,nk z18,decide_false,Bool.or_self,Bool.false_eq_true,if_false]
 exact b9 e0 (fun y=>nk z4 y.1) (fun y=>nk z7 y.1) (nk z13)
theorem Cl (o:Opn) (i:Int)  :
  let A:=True;let B:=IntKind.wrap IntKind.i64 (i+(1:Int));let C:=A/\[B]=aZ o i/\A;if decide (o.kind=(15:Int))=true then A/\[o.n]=aZ o i/\A else if decide (o.kind=(14:Int))=true then A/\[o.n,B]=aZ o i/\A else if decide (o.kind=(16:Int))=true then if decide ((0:Int)<(↑(List.length o.tos):Int))=true then A/\o.tos=aZ o i/\A else C else C:=by
 conv=>zeta
 repeat' (first | exact trivial | rfl | refine a7 (fun _=>?_) (fun _=>?_) | refine And.intro ?_ ?_)
 all_goals (unfold aZ;simp_all)
 all_goals (intro z;have h:=‹0 < o.tos.length›;rw [z] at h;exact absurd h (by simp))
theorem zN (code:List Chnk) (k:Int) (bs:List Rstt) (n:Nat) (ho:Dn code k bs n) :
  let A:=(0:Int);let B:=(↑(List.length code):Int);let C:=Int.toNat k;let D:=dfl (Ty.st SN.chunk);let E:=List.getD code C D;let F:=(↑(List.length E.ops):Int);let G:=(1:Int);let H:=F+G;let I:=(↑n:Int);let J:=A<=k/\k<I;let K:=(↑(Int.toNat H):Int);let L:=(List.replicate (Int.toNat H) {known:=false,things:=A,names:=A:Rstt});let M:=(1:Nat);let N:=aF code k;let O:=cP code k;let P:=code=code;let Q:=k=k;let R:=n=n;let S:=E.ops=E.ops;let T:=Int.toNat H=Int.toNat H;let U:=dfl (Ty.st SN.rstt);let V:=True;let W:=cm code k bs;let X:=false=W.1;let Y:=dfl (Ty.st SN.op);let Z:=true=true;let a:=false=false;let b:=A=A;let c:=dfl (Ty.int IntKind.i64);let d:=Int.toNat F;(A<=k/\k<B)/\inR IntKind.i64 H/\(A<=F+G/\F+G<=F+G/\H*(↑(24:Nat):Int)<=(140737488355328:Int))/\J/\Int.toNat k<List.length bs/\(A<=A/\A<K)/\Int.toNat A<List.length L/\(∃(x:Nat × List Rstt × List Rstt),(x.1<=aF code k/\List.length x.2.1=aF code k+M/\List.length x.2.2=List.length code/\kL code k N (List.drop x.1 O.ops) x.1 x.2.1 x.2.2=cm code k bs)/\A=(↑x.1:Int)/\P/\Q/\R/\S/\T/\List.set L (Int.toNat A) (List.getD bs C U)=x.2.1/\bs=x.2.2/\V)/\∀(x:Nat × List Rstt × List Rstt),let e:=(↑x.1:Int);let f:=A<=e/\e<K;let g:=Int.toNat e<List.length x.2.1;let h:=Int.toNat e;let i:=List.getD x.2.1 h U;let j:=x.2.2=W.2/\V;let l:=V/\X/\j;let m:=List.getD E.ops h Y;let o:=Int.toNat k<List.length x.2.2;let p:=List.getD x.2.2 C U;let q:=aJ m i p.names;let r:=A<=m.n/\m.n<I;let s:=Int.toNat m.n<List.length x.2.2;let t:=Int.toNat m.n;let u:=List.getD x.2.2 t U;let v:=i.names+(List.getD code t D).args;let w:=aZ m e;let z:=e=e;let A0:=q.2=q.2;let A1:=aZ m e=aZ m e;let A2:=List.getD E.ops h Y=List.getD E.ops h Y;let A3:=List.set x.2.2 t {known:=true,things:=A,names:=IntKind.wrap IntKind.i64 v:Rstt}=List.set x.2.2 t {known:=true,things:=A,names:=IntKind.wrap IntKind.i64 v:Rstt}/\A2/\q.1=q.1/\Z/\b/\IntKind.wrap IntKind.i64 v=IntKind.wrap IntKind.i64 v/\V;let A4:=(↑(List.length w):Int);let A5:=V/\X/\List.set x.2.2 t {known:=true,things:=A,names:=IntKind.wrap IntKind.i64 v:Rstt}=W.2/\V;let A6:=inR IntKind.i64 (e+G);let A7:=r/\s/\(∃(x_1:Nat × List Rstt),(x_1.1<=List.length w/\List.length x_1.2=aF code k+M/\cz e N q.1 (List.drop x_1.1 w) x_1.2=cz e N q.1 w x.2.1)/\A=(↑x_1.1:Int)/\z/\P/\Q/\R/\S/\T/\Z/\a/\A0/\a/\Z/\a/\a/\A1/\x.2.1=x_1.2/\A3)/\∀(x_1:Nat × List Rstt),let B0:=(↑x_1.1:Int);let B1:=A<=B0/\B0<A4;let B2:=Int.toNat B0;let B3:=A<=List.getD w B2 c/\List.getD w B2 c<K;let B4:=List.getD w B2 c;let B5:=Int.toNat B4<List.length x_1.2;let B6:=List.getD x_1.2 (Int.toNat B4) U;let B7:=B1/\B3/\B5/\inR IntKind.i64 (B0+G)/\∃(y:Nat × List Rstt),(y.1<=List.length w/\List.length y.2=aF code k+M/\cz e N q.1 (List.drop y.1 w) y.2=cz e N q.1 w x.2.1)/\List.length w - y.1<List.length w - x_1.1/\B0+G=(↑y.1:Int)/\z/\P/\Q/\R/\S/\T/\Z/\a/\A0/\a/\Z/\a/\a/\A1/\List.set x_1.2 (Int.toNat B4) q.1=y.2/\A3;x_1.1<=List.length w/\List.length x_1.2=aF code k+M/\cz e N q.1 (List.drop x_1.1 w) x_1.2=cz e N q.1 w x.2.1→if decide (B0<A4)=true then B1/\if decide (List.getD w B2 c<=e)=true then A5 else B1/\if decide (F<List.getD w B2 c)=true then A5 else B1/\B3/\B5/\if B6.known=true then B1/\B3/\B5/\if (!(B6.known==q.1.known && (decide (B6.things=q.1.things) && (decide (B6.names=q.1.names) && true))))=true then A5 else B7 else B7 else A6/\∃(y:Nat × List Rstt × List Rstt),(y.1<=aF code k/\List.length y.2.1=aF code k+M/\List.length y.2.2=List.length code/\kL code k N (List.drop y.1 O.ops) y.1 y.2.1 y.2.2=cm code k bs)/\aF code k - y.1<aF code k - x.1/\e+G=(↑y.1:Int)/\P/\Q/\R/\S/\T/\x_1.2=y.2.1/\List.set x.2.2 t {known:=true,things:=A,names:=IntKind.wrap IntKind.i64 v:Rstt}=y.2.2/\V;let A8:=x.2.2=x.2.2/\A2/\q.1=q.1/\V;let A9:=List.getD x.2.1 d U;x.1<=aF code k/\List.length x.2.1=aF code k+M/\List.length x.2.2=List.length code/\kL code k N (List.drop x.1 O.ops) x.1 x.2.1 x.2.2=cm code k bs→if decide (e<F)=true then (A<=e/\e<F)/\f/\g/\if (!i.known)=true then l else if (!bL m)=true then l else f/\g/\J/\o/\(V/\V)/\if (!q.2)=true then l else if decide (m.kind=(6:Int))=true then if decide (m.n<=k)=true then l else if decide (B<=m.n)=true then l else f/\g/\(A<=m.n/\m.n<B)/\r/\s/\if u.known=true then r/\s/\if (!(u.known==true && (decide (u.things=A) && (decide (u.names=IntKind.wrap IntKind.i64 v) && true))))=true then l else A7 else A7 else (∃(x_1:Nat × List Rstt),(x_1.1<=List.length w/\List.length x_1.2=aF code k+M/\cz e N q.1 (List.drop x_1.1 w) x_1.2=cz e N q.1 w x.2.1)/\A=(↑x_1.1:Int)/\z/\P/\Q/\R/\S/\T/\Z/\a/\A0/\a/\a/\A1/\x.2.1=x_1.2/\A8)/\∀(x_1:Nat × List Rstt),let B0:=(↑x_1.1:Int);let B1:=A<=B0/\B0<A4;let B2:=Int.toNat B0;let B3:=A<=List.getD w B2 c/\List.getD w B2 c<K;let B4:=List.getD w B2 c;let B5:=Int.toNat B4<List.length x_1.2;let B6:=List.getD x_1.2 (Int.toNat B4) U;let B7:=B1/\B3/\B5/\inR IntKind.i64 (B0+G)/\∃(y:Nat × List Rstt),(y.1<=List.length w/\List.length y.2=aF code k+M/\cz e N q.1 (List.drop y.1 w) y.2=cz e N q.1 w x.2.1)/\List.length w - y.1<List.length w - x_1.1/\B0+G=(↑y.1:Int)/\z/\P/\Q/\R/\S/\T/\Z/\a/\A0/\a/\a/\A1/\List.set x_1.2 (Int.toNat B4) q.1=y.2/\A8;x_1.1<=List.length w/\List.length x_1.2=aF code k+M/\cz e N q.1 (List.drop x_1.1 w) x_1.2=cz e N q.1 w x.2.1→if decide (B0<A4)=true then B1/\if decide (List.getD w B2 c<=e)=true then l else B1/\if decide (F<List.getD w B2 c)=true then l else B1/\B3/\B5/\if B6.known=true then B1/\B3/\B5/\if (!(B6.known==q.1.known && (decide (B6.things=q.1.things) && (decide (B6.names=q.1.names) && true))))=true then l else B7 else B7 else A6/\∃(y:Nat × List Rstt × List Rstt),(y.1<=aF code k/\List.length y.2.1=aF code k+M/\List.length y.2.2=List.length code/\kL code k N (List.drop y.1 O.ops) y.1 y.2.1 y.2.2=cm code k bs)/\aF code k - y.1<aF code k - x.1/\e+G=(↑y.1:Int)/\P/\Q/\R/\S/\T/\x_1.2=y.2.1/\
  x.2.2=y.2.2/\V else (A<=F/\F<K)/\Int.toNat F<List.length x.2.1/\if A9.known=true then if decide (A9.things=G)=true then J/\o/\V/\decide (A9.names=p.names)=W.1/\j else l else l:=by
 conv=>zeta
 obtain ⟨h1,h2,h3,h4,h5,h6⟩:=ho
 subst h4
 have dC:dfl (Ty.st SN.chunk)=(default:Chnk):=rfl
 have dS:dfl (Ty.st SN.rstt)=(default:Rstt):=rfl
 have dO:dfl (Ty.st SN.op)=(default:Opn):=rfl
 have dI:dfl (Ty.int IntKind.i64)=(0:Int):=rfl
 have dA:(code.getD k.toNat default).ops=(cP code k).ops:=rfl
 have dN:(cP code k).ops.length=aF code k:=rfl
 have tN:(((aF code k:Nat):Int)+1).toNat=aF code k+1:=by omega
 have z0:(0:Int).toNat=0:=rfl
 have hb:∀x y:Rstt,((x.known ==y.known) && (decide (x.things=y.things) && (decide (x.names=y.names) && true)))=eqR x y:=fun x y=>by unfold eqR;simp only [Bool.and_true,Bool.and_assoc]
 simp only [dC,dS,dO,dI,dA,dN,tN,z0,Int.toNat_natCast,hb]
 have ln:=h6.len
 have cN:((aF code k+1:Nat):Int)=(aF code k:Int)+1:=by omega
 refine ⟨⟨h1,h2⟩,ag (by omega) (by omega),⟨by omega,by omega,by show ((aF code k:Int)+1) *24<=_;omega⟩,⟨h1,h2⟩,by omega,⟨by omega,by omega⟩,by simp only [List.length_replicate];omega,⟨(0,nJ (aF code k+1) (bs.getD k.toNat default),bs),⟨Nat.zero_le _,by unfold nJ;simp,h3,rfl⟩,by repeat' (first | exact trivial | rfl | apply And.intro)⟩,?_⟩
 rintro ⟨i,l,b⟩ ⟨i1,i2,i3,i4⟩
 simp only at i1 i2 i3 i4 ⊢
 have oB:=i4
 generalize hcF:cm code k bs=cf at *
 generalize hN:aF code k=N at *
 refine a7 (fun q=>?_) (fun q=>?_)
 ·replace q:=Xo q
  have q0:i < N:=by omega
  have qi:i < (cP code k).ops.length:=by omega
  rw [bS (cP code k).ops i (default:Opn) qi] at i4
  have hwf:Wf (.st .op) ((cP code k).ops.getD i default):=Wf.mem (h6.mem (fW code k.toNat default (by omega))).chunk_ops (fW _ i default qi)
  have hW:=zx ((cP code k).ops.getD i default) i hwf.op_tos.len
  generalize (cP code k).ops.getD i (default:Opn)=O at *
  rw [kL] at i4
  have ref:gS code k i O l b=true→cf=(false,b):=fun z=>by rw [if_pos z] at i4;exact i4.symm
  unfold rbs at i4
  refine ⟨⟨by omega,by omega⟩,⟨by omega,by omega⟩,by omega,a7 (fun m=>?_) (fun m=>?_)⟩
  ·rw [ref (by unfold gS;rw [m];rfl)];exact ⟨trivial,rfl,rfl,trivial⟩
  have m:(l.getD i default).known=true:=by simpa using m
  refine a7 (fun m2=>?_) (fun m2=>?_)
  ·rw [ref (by unfold gS;rw [m2];simp)];exact ⟨trivial,rfl,rfl,trivial⟩
  have m2:bL O=true:=by simpa using m2
  refine ⟨⟨by omega,by omega⟩,by omega,⟨h1,h2⟩,by omega,⟨trivial,trivial⟩,a7 (fun m3=>?_) (fun m3=>?_)⟩
  ·rw [ref (by unfold gS;rw [m3];simp)];exact ⟨trivial,rfl,rfl,trivial⟩
  have m3:(aJ O (l.getD i default) (b.getD k.toNat default).names).2=true:=by simpa using m3
  have rb:gS code k i O l b=(decide (O.kind=6) && (decide (O.n<=k) || decide ((code.length:Int)<=O.n) || ((b.getD O.n.toNat default).known && !eqR (b.getD O.n.toNat default) (iS code O (l.getD i default))))):=by unfold gS;rw [m,m2,m3];rfl
  rw [rb] at i4 ref
  clear rb m m2 m3
  generalize (aJ O (l.getD i default) (b.getD k.toNat default).names).1=st at *
  generalize (aJ O (l.getD i default) (b.getD k.toNat default).names).2=sb at *
  generalize aZ O (i:Int)=W at *
  generalize l.getD i default=S at *
  have rc:(⟨true,0,IntKind.i64.wrap (S.names+(code.getD O.n.toNat default).args)⟩:Rstt)=iS code O S:=rfl
  refine a7 (fun K=>?_) (fun K=>?_)
  ·have K:=Xo K
   rw [Xd K,Bool.true_and] at i4 ref
   rw [if_pos K] at i4
   refine a7 (fun y=>?_) (fun y=>?_)
   ·rw [ref (by rw [y];rfl)];exact ⟨trivial,rfl,rfl,trivial⟩
   have y:decide (O.n<=k)=false:=by simpa using y
   refine a7 (fun w=>?_) (fun w=>?_)
   ·rw [ref (by rw [w];simp)];exact ⟨trivial,rfl,rfl,trivial⟩
   have w:decide ((code.length:Int)<=O.n)=false:=by simpa using w
   rw [y,w,Bool.false_or,Bool.false_or] at i4 ref
   have y':=of_decide_eq_false y
   have w':=of_decide_eq_false w
   refine ⟨⟨by omega,by omega⟩,by omega,⟨by omega,by omega⟩,⟨by omega,by omega⟩,by omega,a7 (fun v=>?_) (fun v=>?_)⟩
   ·have hq:(((b.getD O.n.toNat default).known ==true) && (decide ((b.getD O.n.toNat default).things=0) && (decide ((b.getD O.n.toNat default).names=IntKind.i64.wrap (S.names+(code.getD O.n.toNat default).args)) && true)))=eqR (b.getD O.n.toNat default) (iS code O S):=hb _ (iS code O S)
    rw [hq]
    refine ⟨⟨by omega,by omega⟩,by omega,a7 (fun u=>?_) (fun u=>?_)⟩
    ·have u:eqR (b.getD O.n.toNat default) (iS code O S)=false:=by simpa using u
     rw [ref (by rw [v,u];rfl)];exact ⟨trivial,rfl,rfl,trivial⟩
    have u:eqR (b.getD O.n.toNat default) (iS code O S)=true:=by simpa using u
    rw [u,Bool.not_true,Bool.and_false,if_neg (fun z=>by cases z)] at i4
    have hcf:=i4
    clear i4 ref oB
    refine ⟨⟨by omega,by omega⟩,by omega,?_⟩
    rw [←rc] at hcf
    refine ⟨⟨(0,l),⟨Nat.zero_le _,i2,by rw [List.drop_zero]⟩,by repeat' (first | exact trivial | rfl | apply And.intro)⟩,?_⟩
    rintro ⟨j,a⟩ ⟨j1,j2,j3⟩
    simp only at j1 j2 j3 ⊢
    refine a7 (fun q=>?_) (fun q=>?_)
    ·replace q:=Xo q
     have q:j < W.length:=by omega
     rw [bS W j (0:Int) q] at j3
     generalize W.getD j (0:Int)=t at *
     have bad:t<=(i:Int)∨(N:Int) < t∨(a.getD t.toNat default).known=true/\eqR (a.getD t.toNat default) st=false→cf=(false,(b.set O.n.toNat ⟨true,0,IntKind.i64.wrap (S.names+(code.getD O.n.toNat default).args)⟩)):=fun z=>by
      rw [show cz i N st (t ::W.drop (j+1)) a=(false,a) by rw [cz,if_pos z]] at j3
      rw [←hcf,←j3,if_neg (fun z=>by cases z)]
     have go:¬t<=(i:Int)→¬(N:Int) < t→¬((a.getD t.toNat default).known=true/\eqR (a.getD t.toNat default) st=false)→cz i N st (W.drop (j+1)) (a.set t.toNat st)=cz i N st W l:=fun y1 y2 y3=>by
      rw [←j3,show cz i N st (t ::W.drop (j+1)) a=cz i N st (W.drop (j+1)) (a.set t.toNat st) by rw [cz,if_neg (fun z=>z.elim y1 (fun z=>z.elim y2 y3))]]
     refine ⟨⟨by omega,by omega⟩,a7 (fun z=>?_) (fun z=>?_)⟩
     ·rw [bad (.inl (Xo z))];exact ⟨trivial,rfl,rfl,trivial⟩
     have t1:¬t<=(i:Int):=fun y=>z (Xd y)
     refine ⟨⟨by omega,by omega⟩,a7 (fun z=>?_) (fun z=>?_)⟩
     ·rw [bad (.inr (.inl (Xo z)))];exact ⟨trivial,rfl,rfl,trivial⟩
     have t2:¬(N:Int) < t:=fun y=>z (Xd y)
     refine ⟨⟨by omega,by omega⟩,⟨by omega,by omega⟩,by omega,a7 (fun z=>?_) (fun z=>?_)⟩
     ·refine ⟨⟨by omega,by omega⟩,⟨by omega,by omega⟩,by omega,a7 (fun y=>?_) (fun y=>?_)⟩
      ·have y:eqR (a.getD t.toNat default) st=false:=by simpa using y
       rw [bad (.inr (.inr ⟨z,y⟩))];exact ⟨trivial,rfl,rfl,trivial⟩
      ·have y:eqR (a.getD t.toNat default) st=true:=by simpa using y
       exact ⟨⟨by omega,by omega⟩,⟨by omega,by omega⟩,by omega,ag (by omega) (by omega),(j+1,a.set t.toNat st),⟨q,by rw [List.length_set];exact j2,go t1 t2 (fun x=>by rw [y] at x;cases x.2)⟩,by simp only;omega,by simp only;omega,by repeat' (first | exact trivial | rfl | apply And.intro)⟩
     ·exact ⟨⟨by omega,by omega⟩,⟨by omega,by omega⟩,by omega,ag (by omega) (by omega),(j+1,a.set t.toNat st),⟨q,by rw [List.length_set];exact j2,go t1 t2 (fun x=>z x.1)⟩,by simp only;omega,by simp only;omega,by repeat' (first | exact trivial | rfl | apply And.intro)⟩
    ·replace q:¬(j:Int) < (W.length:Int):=fun y=>q (Xd y)
     rw [List.drop_eq_nil_of_le (by omega)] at j3
     rw [←j3,cz,if_pos rfl] at hcf
     exact ⟨ag (by omega) (by omega),(i+1,a,(b.set O.n.toNat ⟨true,0,IntKind.i64.wrap (S.names+(code.getD O.n.toNat default).args)⟩)),⟨q0,j2,by rw [List.length_set];exact i3,hcf⟩,by simp only;omega,by simp only;omega,by repeat' (first | exact trivial | rfl | apply And.intro)⟩
   ·have v:(b.getD O.n.toNat default).known=false:=by simpa using v
    rw [v,Bool.false_and,if_neg (fun z=>by cases z)] at i4
    have hcf:=i4
    clear i4 ref oB
    refine ⟨⟨by omega,by omega⟩,by omega,?_⟩
    rw [←rc] at hcf
    refine ⟨⟨(0,l),⟨Nat.zero_le _,i2,by rw [List.drop_zero]⟩,by repeat' (first | exact trivial | rfl | apply And.intro)⟩,?_⟩
    rintro ⟨j,a⟩ ⟨j1,j2,j3⟩
    simp only at j1 j2 j3 ⊢
    refine a7 (fun q=>?_) (fun q=>?_)
    ·replace q:=Xo q
     have q:j < W.length:=by omega
     rw [bS W j (0:Int) q] at j3
     generalize W.getD j (0:Int)=t at *
     have bad:t<=(i:Int)∨(N:Int) < t∨(a.getD t.toNat default).known=true/\eqR (a.getD t.toNat default) st=false→cf=(false,(b.set O.n.toNat ⟨true,0,IntKind.i64.wrap (S.names+(code.getD O.n.toNat default).args)⟩)):=fun z=>by
      rw [show cz i N st (t ::W.drop (j+1)) a=(false,a) by rw [cz,if_pos z]] at j3
      rw [←hcf,←j3,if_neg (fun z=>by cases z)]
     have go:¬t<=(i:Int)→¬(N:Int) < t→¬((a.getD t.toNat default).known=true/\eqR (a.getD t.toNat default) st=false)→cz i N st (W.drop (j+1)) (a.set t.toNat st)=cz i N st W l:=fun y1 y2 y3=>by
      rw [←j3,show cz i N st (t ::W.drop (j+1)) a=cz i N st (W.drop (j+1)) (a.set t.toNat st) by rw [cz,if_neg (fun z=>z.elim y1 (fun z=>z.elim y2 y3))]]
     refine ⟨⟨by omega,by omega⟩,a7 (fun z=>?_) (fun z=>?_)⟩
     ·rw [bad (.inl (Xo z))];exact ⟨trivial,rfl,rfl,trivial⟩
     have t1:¬t<=(i:Int):=fun y=>z (Xd y)
     refine ⟨⟨by omega,by omega⟩,a7 (fun z=>?_) (fun z=>?_)⟩
     ·rw [bad (.inr (.inl (Xo z)))];exact ⟨trivial,rfl,rfl,trivial⟩
     have t2:¬(N:Int) < t:=fun y=>z (Xd y)
     refine ⟨⟨by omega,by omega⟩,⟨by omega,by omega⟩,by omega,a7 (fun z=>?_) (fun z=>?_)⟩
     ·refine ⟨⟨by omega,by omega⟩,⟨by omega,by omega⟩,by omega,a7 (fun y=>?_) (fun y=>?_)⟩
      ·have y:eqR (a.getD t.toNat default) st=false:=by simpa using y
       rw [bad (.inr (.inr ⟨z,y⟩))];exact ⟨trivial,rfl,rfl,trivial⟩
      ·have y:eqR (a.getD t.toNat default) st=true:=by simpa using y
       exact ⟨⟨by omega,by omega⟩,⟨by omega,by omega⟩,by omega,ag (by omega) (by omega),(j+1,a.set t.toNat st),⟨q,by rw [List.length_set];exact j2,go t1 t2 (fun x=>by rw [y] at x;cases x.2)⟩,by simp only;omega,by simp only;omega,by repeat' (first | exact trivial | rfl | apply And.intro)⟩
     ·exact ⟨⟨by omega,by omega⟩,⟨by omega,by omega⟩,by omega,ag (by omega) (by omega),(j+1,a.set t.toNat st),⟨q,by rw [List.length_set];exact j2,go t1 t2 (fun x=>z x.1)⟩,by simp only;omega,by simp only;omega,by repeat' (first | exact trivial | rfl | apply And.intro)⟩
    ·replace q:¬(j:Int) < (W.length:Int):=fun y=>q (Xd y)
     rw [List.drop_eq_nil_of_le (by omega)] at j3
     rw [←j3,cz,if_pos rfl] at hcf
     exact ⟨ag (by omega) (by omega),(i+1,a,(b.set O.n.toNat ⟨true,0,IntKind.i64.wrap (S.names+(code.getD O.n.toNat default).args)⟩)),⟨q0,j2,by rw [List.length_set];exact i3,hcf⟩,by simp only;omega,by simp only;omega,by repeat' (first | exact trivial | rfl | apply And.intro)⟩
  ·have K:¬O.kind=6:=fun z=>K (Xd z)
   rw [Xf K,Bool.false_and,if_neg (fun z=>by cases z),if_neg K] at i4
   have hcf:=i4
   clear i4 ref oB
   refine ⟨⟨(0,l),⟨Nat.zero_le _,i2,by rw [List.drop_zero]⟩,by repeat' (first | exact trivial | rfl | apply And.intro)⟩,?_⟩
   rintro ⟨j,a⟩ ⟨j1,j2,j3⟩
   simp only at j1 j2 j3 ⊢
   refine a7 (fun q=>?_) (fun q=>?_)
   ·replace q:=Xo q
    have q:j < W.length:=by omega
    rw [bS W j (0:Int) q] at j3
    generalize W.getD j (0:Int)=t at *
    have bad:t<=(i:Int)∨(N:Int) < t∨(a.getD t.toNat default).known=true/\eqR (a.getD t.toNat default) st=false→cf=(false,b):=fun z=>by
     rw [show cz i N st (t ::W.drop (j+1)) a=(false,a) by rw [cz,if_pos z]] at j3
     rw [←hcf,←j3,if_neg (fun z=>by cases z)]
    have go:¬t<=(i:Int)→¬(N:Int) < t→¬((a.getD t.toNat default).known=true/\eqR (a.getD t.toNat default) st=false)→cz i N st (W.drop (j+1)) (a.set t.toNat st)=cz i N st W l:=fun y1 y2 y3=>by
     rw [←j3,show cz i N st (t ::W.drop (j+1)) a=cz i N st (W.drop (j+1)) (a.set t.toNat st) by rw [cz,if_neg (fun z=>z.elim y1 (fun z=>z.elim y2 y3))]]
    refine ⟨⟨by omega,by omega⟩,a7 (fun z=>?_) (fun z=>?_)⟩
    ·rw [bad (.inl (Xo z))];exact ⟨trivial,rfl,rfl,trivial⟩
    have t1:¬t<=(i:Int):=fun y=>z (Xd y)
    refine ⟨⟨by omega,by omega⟩,a7 (fun z=>?_) (fun z=>?_)⟩
    ·rw [bad (.inr (.inl (Xo z)))];exact ⟨trivial,rfl,rfl,trivial⟩
    have t2:¬(N:Int) < t:=fun y=>z (Xd y)
    refine ⟨⟨by omega,by omega⟩,⟨by omega,by omega⟩,by omega,a7 (fun z=>?_) (fun z=>?_)⟩
    ·refine ⟨⟨by omega,by omega⟩,⟨by omega,by omega⟩,by omega,a7 (fun y=>?_) (fun y=>?_)⟩
     ·have y:eqR (a.getD t.toNat default) st=false:=by simpa using y
      rw [bad (.inr (.inr ⟨z,y⟩))];exact ⟨trivial,rfl,rfl,trivial⟩
     ·have y:eqR (a.getD t.toNat default) st=true:=by simpa using y
      exact ⟨⟨by omega,by omega⟩,⟨by omega,by omega⟩,by omega,ag (by omega) (by omega),(j+1,a.set t.toNat st),⟨q,by rw [List.length_set];exact j2,go t1 t2 (fun x=>by rw [y] at x;cases x.2)⟩,by simp only;omega,by simp only;omega,by repeat' (first | exact trivial | rfl | apply And.intro)⟩
    ·exact ⟨⟨by omega,by omega⟩,⟨by omega,by omega⟩,by omega,ag (by omega) (by omega),(j+1,a.set t.toNat st),⟨q,by rw [List.length_set];exact j2,go t1 t2 (fun x=>z x.1)⟩,by simp only;omega,by simp only;omega,by repeat' (first | exact trivial | rfl | apply And.intro)⟩
   ·replace q:¬(j:Int) < (W.length:Int):=fun y=>q (Xd y)
    rw [List.drop_eq_nil_of_le (by omega)] at j3
    rw [←j3,cz,if_pos rfl] at hcf
    exact ⟨ag (by omega) (by omega),(i+1,a,b),⟨q0,j2,i3,hcf⟩,by simp only;omega,by simp only;omega,by repeat' (first | exact trivial | rfl | apply And.intro)⟩
 ·replace q:¬(i:Int) < (N:Int):=fun z=>q (Xd z)
  have q:i=N:=by omega
  subst q
  rw [List.drop_eq_nil_of_le (by omega),kL] at i4
  rw [←i4]
  refine ⟨⟨by omega,by omega⟩,by omega,a7 (fun v=>?_) (fun v=>?_)⟩
  ·refine a7 (fun u=>?_) (fun u=>?_)
   ·refine ⟨⟨h1,h2⟩,by omega,trivial,?_,rfl,trivial⟩
    rw [v,u];rfl
   ·have u:decide ((l.getD i default).things=1)=false:=by simpa using u
    rw [v,u];exact ⟨trivial,rfl,rfl,trivial⟩
  ·have v:(l.getD i default).known=false:=by simpa using v
   rw [v];exact ⟨trivial,rfl,rfl,trivial⟩
theorem wZ (l:List Chnk) (n:Int) (hl:Wf (.lst (.st .chunk)) l) :
  let A:=(0:Int);let B:=True;let C:=B/\(310:Int)=iw l n/\B;let D:=List.length l;let E:=(↑D:Int);let F:=(4096:Int);let G:=dfl (Ty.st SN.chunk);let H:=(4096:Nat);let I:=false=false;let J:=l=l/\n=n/\I/\B;let K:=(1:Int);let L:=Int.toNat E;let M:=(List.replicate L {known:=false,things:=A,names:=A:Rstt});let N:=(0:Nat);let O:=(nJ D {known:=true,things:=A,names:=n:Rstt});let P:=Int.toNat E=Int.toNat E;if decide (n<A)=true then C else if decide ((1000000:Int)<n)=true then C else if decide (E=A)=true then C else if decide (F<E)=true then C else (A<=A/\A<E)/\if (!decide ((List.getD l (Int.toNat A) G).args=A))=true then C else (∃(x:Nat × Nat),let Q:=(↑x.2:Int);(x.1<=List.length l/\bz (List.drop x.1 l) Q=bz l A/\x.2<=H/\∀(c:Chnk),c∈List.take x.1 l→List.length c.ops<=H)/\A=(↑x.1:Int)/\A=Q/\J)/\∀(x:Nat × Nat),let Q:=(↑x.2:Int);let R:=(↑x.1:Int);let S:=A<=R/\R<E;let T:=List.getD l (Int.toNat R) G;let U:=(↑(List.length T.ops):Int);(x.1<=List.length l/\bz (List.drop x.1 l) Q=bz l A/\x.2<=H/\∀(c:Chnk),c∈List.take x.1 l→List.length c.ops<=H)→if decide (R<E)=true then S/\if decide (T.args<A)=true then C else S/\if decide (F<T.args)=true then C else S/\if decide (F<U)=true then C else S/\inR IntKind.i64 (Q+U)/\if decide (F<Q+U)=true then C else inR IntKind.i64 (R+K)/\∃(y:Nat × Nat),let V:=(↑y.2:Int);(y.1<=List.length l/\bz (List.drop y.1 l) V=bz l A/\y.2<=H/\∀(c:Chnk),c∈List.take y.1 l→List.length c.ops<=H)/\List.length l - y.1<List.length l - x.1/\R+K=(↑y.1:Int)/\Q+U=V/\J else (A<=E/\E<=E/\E*(↑(24:Nat):Int)<=(140737488355328:Int))/\(A<=A/\A<(↑L:Int))/\Int.toNat A<List.length M/\(∃(x_1:Nat × List Rstt),(x_1.1<=List.length l/\List.length x_1.2=List.length l/\gT l (List.length l - x_1.1) x_1.1 x_1.2=gT l D N O)/\A=(↑x_1.1:Int)/\R=R/\Q=Q/\l=l/\n=n/\I/\I/\P/\List.set M (Int.toNat A) {known:=true,things:=A,names:=n:Rstt}=x_1.2/\B)/\∀(x_1:Nat × List Rstt),let V:=(↑x_1.1:Int);let W:=cm l V x_1.2;x_1.1<=List.length l/\List.length x_1.2=List.length l/\gT l (List.length l - x_1.1) x_1.1 x_1.2=gT l D N O→if decide (V<E)=true then (A<=V/\V<(↑L:Int))/\Int.toNat V<List.length x_1.2/\if (!(List.getD x_1.2 (Int.toNat V) (dfl (Ty.st SN.rstt))).known)=true then C else Dn l V x_1.2 L/\if (!W.1)=true then C else inR IntKind.i64 (V+K)/\∃(y:Nat × List Rstt),(y.1<=List.length l/\List.length y.2=List.length l/\gT l (List.length l - y.1) y.1 y.2=gT l D N O)/\List.length l - y.1<List.length l - x_1.1/\V+K=(↑y.1:Int)/\R=R/\Q=Q/\l=l/\n=n/\I/\I/\P/\W.2=y.2/\B else B/\A=iw l n/\B:=by
 conv=>zeta
 have ln:=hl.len
 have dC:dfl (Ty.st SN.chunk)=(default:Chnk):=rfl
 have dR:dfl (Ty.st SN.rstt)=(default:Rstt):=rfl
 have z0:(0:Int).toNat=0:=rfl
 rw [←Dh (code:=l) (scope:=n) (fun c hc o ho=>⟨(Wf.mem (Wf.mem hl hc).chunk_ops ho).op_n.2,(Wf.mem (Wf.mem hl hc).chunk_ops ho).op_names.len⟩)]
 simp only [Int.toNat_natCast,dC,dR,z0]
 have bad1:n < 0∨1000000 < n∨l.length=0∨4096 < l.length∨(l.getD 0 default).args≠0→qg l n=310:=fun h=>by unfold qg;rw [if_pos h]
 refine a7 (fun h=>?_) (fun h=>?_)
 ·rw [bad1 (.inl (Xo h))];exact ⟨trivial,rfl,trivial⟩
 replace h:¬n < 0:=fun q=>h (Xd q)
 refine a7 (fun h2=>?_) (fun h2=>?_)
 ·rw [bad1 (.inr (.inl (Xo h2)))];exact ⟨trivial,rfl,trivial⟩
 replace h2:¬1000000 < n:=fun q=>h2 (Xd q)
 refine a7 (fun h3=>?_) (fun h3=>?_)
 ·replace h3:=Xo h3
  rw [bad1 (.inr (.inr (.inl (by omega))))];exact ⟨trivial,rfl,trivial⟩
 replace h3:¬(l.length:Int)=0:=fun q=>h3 (Xd q)
 refine a7 (fun h4=>?_) (fun h4=>?_)
 ·replace h4:=Xo h4
  rw [bad1 (.inr (.inr (.inr (.inl (by omega)))))];exact ⟨trivial,rfl,trivial⟩
 replace h4:¬4096 < (l.length:Int):=fun q=>h4 (Xd q)
 refine ⟨⟨by omega,by omega⟩,a7 (fun h5=>?_) (fun h5=>?_)⟩
 ·have h5:¬(l.getD 0 default).args=0:=by simpa using h5
  rw [bad1 (.inr (.inr (.inr (.inr h5))))];exact ⟨trivial,rfl,trivial⟩
 have h5:(l.getD 0 default).args=0:=by simpa using h5
 have nb:¬(n < 0∨1000000 < n∨l.length=0∨4096 < l.length∨(l.getD 0 default).args≠0):=fun z=>z.elim h (fun z=>z.elim h2 (fun z=>z.elim (fun z=>h3 (by omega)) (fun z=>z.elim (fun z=>h4 (by omega)) (fun z=>z h5))))
 have ev:qg l n=if bz l 0=false then 310 else if gT l l.length 0 (nJ l.length ⟨true,0,n⟩)=true then 0 else 310:=by unfold qg;rw [if_neg nb]
 clear bad1 nb h5
 refine ⟨⟨(0,0),⟨Nat.zero_le _,rfl,by omega,by simp⟩,by repeat' (first | exact trivial | rfl | apply And.intro)⟩,?_⟩
 rintro ⟨i,z⟩ ⟨i1,i2,i3,i4⟩
 simp only at i1 i2 i3 i4 ⊢
 refine a7 (fun q=>?_) (fun q=>?_)
 ·replace q:=Xo q
  have q:i < l.length:=by omega
  rw [bS l i (default:Chnk) q] at i2
  have hg:=gH l i default q
  have hop:=(hl.mem (fW l i default q))
  have ho:=hop.chunk_ops.len
  generalize l.getD i default=C at *
  have e2:bz (C ::l.drop (i+1)) (z:Int)=if C.args < 0∨4096 < C.args∨4096 - (z:Int) < (C.ops.length:Int) then false else bz (l.drop (i+1)) ((z:Int)+C.ops.length):=rfl
  rw [e2] at i2
  have bad:C.args < 0∨4096 < C.args∨4096 - (z:Int) < (C.ops.length:Int)→qg l n=310:=fun y=>by
   rw [if_pos y] at i2
   rw [ev,←i2];rfl
  refine ⟨⟨by omega,by omega⟩,a7 (fun a=>?_) (fun a=>?_)⟩
  ·rw [bad (.inl (Xo a))];exact ⟨trivial,rfl,trivial⟩
  replace a:¬C.args < 0:=fun q=>a (Xd q)
  refine ⟨⟨by omega,by omega⟩,a7 (fun b=>?_) (fun b=>?_)⟩
  ·rw [bad (.inr (.inl (Xo b)))];exact ⟨trivial,rfl,trivial⟩
  replace b:¬4096 < C.args:=fun q=>b (Xd q)
  refine ⟨⟨by omega,by omega⟩,a7 (fun c=>?_) (fun c=>?_)⟩
  ·replace c:=Xo c
   rw [bad (.inr (.inr (by omega)))];exact ⟨trivial,rfl,trivial⟩
  replace c:¬4096 < (C.ops.length:Int):=fun q=>c (Xd q)
  refine ⟨⟨by omega,by omega⟩,ag (by omega) (by omega),a7 (fun d=>?_) (fun d=>?_)⟩
  ·replace d:=Xo d
   rw [bad (.inr (.inr (by omega)))];exact ⟨trivial,rfl,trivial⟩
  replace d:¬4096 < (z:Int)+(C.ops.length:Int):=fun q=>d (Xd q)
  rw [if_neg (fun y=>y.elim a (fun y=>y.elim b (fun y=>by omega)))] at i2
  refine ⟨ag (by omega) (by omega),(i+1,z+C.ops.length),⟨q,by rw [←i2];congr 1,by simp only;omega,?_⟩,by simp only;omega,by simp only;omega,by simp only;omega,by repeat' (first | exact trivial | rfl | apply And.intro)⟩
  intro c' hc'
  rw [hg] at hc'
  rcases List.mem_append.1 hc' with hc' | hc'
  ·exact i4 c' hc'
  ·rw [List.mem_singleton.1 hc'];omega
 ·replace q:¬(i:Int) < (l.length:Int):=fun y=>q (Xd y)
  have q:i=l.length:=by omega
  subst q
  rw [List.drop_length] at i2
  have i2:bz l 0=true:=i2.symm
  rw [i2,if_neg (by simp)] at ev
  rw [List.take_length] at i4
  refine ⟨⟨by omega,by omega,by show (l.length:Int) *24<=_;omega⟩,⟨by omega,by omega⟩,by simp only [List.length_replicate];omega,⟨(0,nJ l.length ⟨true,0,n⟩),⟨Nat.zero_le _,by unfold nJ;simp,rfl⟩,by repeat' (first | exact trivial | rfl | apply And.intro)⟩,?_⟩
  rintro ⟨k,bs⟩ ⟨k1,k2,k3⟩
  simp only at k1 k2 k3 ⊢
  refine a7 (fun q=>?_) (fun q=>?_)
  ·replace q:=Xo q
   have q:k < l.length:=by omega
   have e:l.length - k=(l.length - (k+1))+1:=by omega
   rw [e,gT] at k3
   refine ⟨⟨by omega,by omega⟩,by omega,a7 (fun a=>?_) (fun a=>?_)⟩
   ·have a:(bs.getD k default).known=false:=by simpa using a
    rw [if_pos a] at k3
    rw [ev,←k3];exact ⟨trivial,rfl,trivial⟩
   have a:(bs.getD k default).known=true:=by simpa using a
   rw [if_neg (by rw [a];exact fun z=>by cases z)] at k3
   refine ⟨⟨by omega,by omega,k2,rfl,?_,hl⟩,a7 (fun b=>?_) (fun b=>?_)⟩
   ·unfold aF cP
    rw [Int.toNat_natCast]
    exact i4 _ (fW l k default q)
   ·have b:(cm l k bs).1=false:=by simpa using b
    rw [if_neg (by rw [b];exact fun z=>by cases z)] at k3
    rw [ev,←k3];exact ⟨trivial,rfl,trivial⟩
   ·have b:(cm l k bs).1=true:=by simpa using b
    rw [if_pos b] at k3
    exact ⟨ag (by omega) (by omega),(k+1,(cm l k bs).2),⟨q,by rw [qm];exact k2,k3⟩,by simp only;omega,by simp only;omega,by repeat' (first | exact trivial | rfl | apply And.intro)⟩
  ·replace q:¬(k:Int) < (l.length:Int):=fun y=>q (Xd y)
   have e:l.length - k=0:=by omega
   rw [e,gT] at k3
   rw [ev,←k3];exact ⟨trivial,rfl,trivial⟩
theorem xa (n:Int) (hn:Wf (.int .u64) n) :
  let A:=(247:Int);let B:=(fun (n:Int)=>UInt8.ofNat (Int.toNat n));let C:=(8:Nat);let D:=(0:Nat);let E:=(256:Nat);let F:=(1:Nat);let G:=Int.toNat n;let H:=(0:Int);let I:=kI UInt8=kI UInt8/\false=false/\True;let J:=(256:Int);let K:=(9223372036854775807:Nat);if decide (n<=A)=true then True/\List.map B [IntKind.wrap IntKind.u8 n]=bQ n/\True else (∃(x:Nat),(x<=C/\(x=D∨Int.toNat n / E ^ (x - F)≠D))/\n=(↑(Int.toNat n / E ^ x):Int)/\([]:Str)=gR G x/\H=(↑x:Int)/\I)/\∀(x:Nat),let L:=(↑(Int.toNat n / E ^ x):Int);let M:=Int.tmod L J;let N:=[IntKind.wrap IntKind.u8 M];let O:=(↑x:Int);let P:=[IntKind.wrap IntKind.u8 (A+O)];x<=C/\(x=D∨Int.toNat n / E ^ (x - F)≠D)→if decide (H<L)=true then (J≠H/\inR IntKind.u64 M)/\List.length (List.map B N)+List.length (gR G x)<=K/\(J≠H/\inR IntKind.u64 (Int.tdiv L J))/\inR IntKind.i64 (O+(1:Int))/\∃(y:Nat),(y<=C/\(y=D∨Int.toNat n / E ^ (y - F)≠D))/\(9:Nat) - y<(9:Nat) - x/\Int.tdiv L J=(↑(Int.toNat n / E ^ y):Int)/\List.map B N++gR G x=gR G y/\O+(1:Int)=(↑y:Int)/\I else inR IntKind.i64 (A+O)/\List.length (List.map B P)+List.length (gR G x)<=K/\True/\List.map B P++gR G x=bQ n/\True:=by
 conv=>zeta
 obtain ⟨w1,w2⟩:=hn.int
 have w1:(0:Int)<=n:=w1
 have w2:n<=(18446744073709551615:Int):=w2
 obtain ⟨m,rfl⟩:=Int.eq_ofNat_of_zero_le w1
 simp only [Int.toNat_natCast]
 have hm:m < 2 ^ 64:=by omega
 refine a7 (fun h=>?_) (fun h=>?_)
 ·replace h:=Xo h
  refine ⟨trivial,?_,trivial⟩
  unfold bQ;rw [if_pos (by omega)];rfl
 have h:¬(m:Int)<=247:=fun q=>h (Xd q)
 obtain ⟨k,k1,k2,k3,k4⟩:=uK (n:=m) (by omega) hm
 have k8:k<=8:=by
  have:=(jY (m:Int)).2
  omega
 refine ⟨⟨0,⟨by omega,.inl rfl⟩,by simp,rfl,rfl,by repeat' (first | exact trivial | rfl | apply And.intro)⟩,?_⟩
 rintro x ⟨x1,x2⟩
 have e:∀a:Nat,Int.tdiv (a:Int) 256=((a / 256:Nat):Int):=fun a=>by rw [Int.tdiv_eq_ediv_of_nonneg (by omega)];omega
 have e':∀a:Nat,Int.tmod (a:Int) 256=((a % 256:Nat):Int):=fun a=>by rw [Int.tmod_eq_emod_of_nonneg (by omega)];omega
 have ex:m / 256 ^ x / 256=m / 256 ^ (x+1):=by rw [Nat.div_div_eq_div_mul,Nat.pow_succ]
 have wr:∀a:Nat,a < 256→UInt8.ofNat (IntKind.wrap IntKind.u8 (a:Int)).toNat=UInt8.ofNat a:=fun a ha=>by
  simp only [IntKind.wrap,IntKind.bits,IntKind.signed]
  simp
  congr 1
  omega
 simp only [e,e',ex]
 have hle:m / 256 ^ x<=m:=Nat.div_le_self _ _
 have hle2:m / 256 ^ (x+1)<=m:=Nat.div_le_self _ _
 have hmod:m / 256 ^ x % 256 < 256:=Nat.mod_lt _ (by omega)
 have hl:=ie m x
 refine a7 (fun q=>?_) (fun q=>?_)
 ·have q:=Xo q
  have q:m / 256 ^ x≠0:=by omega
  have hx:x < 8:=by
   rcases Nat.lt_or_ge x 8 with c | c
   ·exact c
   ·have:x=8:=by omega
    subst this
    exact absurd (Nat.div_eq_of_lt (by omega)) q
  refine ⟨⟨by omega,⟨by show (0:Int)<=_;omega,by show _<=(18446744073709551615:Int);omega⟩⟩,by simp only [List.length_map,List.length_singleton];omega,⟨by omega,⟨by show (0:Int)<=_;omega,by show _<=(18446744073709551615:Int);omega⟩⟩,ag (by omega) (by omega),x+1,⟨by omega,.inr q⟩,by omega,rfl,?_,by omega,by repeat' (first | exact trivial | rfl | apply And.intro)⟩
  rw [List.map_cons,List.map_nil,wr _ hmod]
  rfl
 ·have q:m / 256 ^ x=0:=by
   have:¬(0:Int) < ((m / 256 ^ x:Nat):Int):=fun z=>q (Xd z)
   exact Nat.eq_zero_of_not_pos fun z=>this (Int.natCast_pos.2 z)
  have exk:x=k:=by
   have h1:m < 256 ^ x:=by
    rcases Nat.lt_or_ge m (256 ^ x) with c | c
    ·exact c
    ·exact absurd (Nat.div_pos c (Nat.pos_of_ne_zero (by exact Nat.pos_iff_ne_zero.1 (Nat.pow_pos (by omega))))) (by omega)
   have h2:k<=x:=by
    rcases Nat.lt_or_ge x k with c | c
    ·have:(256:Nat) ^ x<=256 ^ (k - 1):=Nat.pow_le_pow_right (by omega) (by omega)
     omega
    ·exact c
   rcases Nat.lt_or_ge k x with c | c
   ·rcases x2 with x2 | x2
    ·omega
    ·have:(256:Nat) ^ k<=256 ^ (x - 1):=Nat.pow_le_pow_right (by omega) (by omega)
     exact absurd (Nat.div_eq_of_lt (by omega)) x2
   ·omega
  subst exk
  refine ⟨ag (by omega) (by omega),by simp only [List.length_map,List.length_singleton];omega,trivial,?_,trivial⟩
  unfold bQ jZ
  rw [if_neg (by omega),k1,Int.toNat_natCast]
  have eo:=y7 (n:=m) k8
  rw [←eo]
  rfl
theorem Cm (s:Str) (ho:s.length<=140737488355328) :
  let A:=(↑(List.length s):Int);inR IntKind.u64 A/\List.length (bQ A)+List.length s<=(9223372036854775807:Nat)/\True/\bQ A++s=b7 s/\True:=by
 conv=>zeta
 have h9:=jo (s.length:Int)
 exact ⟨⟨by show (0:Int)<=_;omega,by show _<=(18446744073709551615:Int);omega⟩,by omega,trivial,rfl,trivial⟩
theorem Du (n:Int)  :
  True/\bQ (IntKind.wrap IntKind.u64 n)=b6 n/\True:=by
 exact ⟨trivial,rfl,trivial⟩
theorem Cn (l:List Str) (hl:Wf (.lst .str) l) (ho:(cM l).length<=140737488355328) :
  let A:=(↑(List.length l):Int);let B:=l=l/\kI UInt8=kI UInt8/\True;let C:=dfl Ty.str;inR IntKind.u64 A/\(∃(x:Nat),x<=List.length l/\(0:Int)=(↑x:Int)/\bQ A=bQ A++List.flatMap b7 (List.take x l)/\B)/\∀(x:Nat),let D:=(↑x:Int);let E:=List.getD l (Int.toNat D) C;let F:=List.take x l;x<=List.length l→if decide (D<A)=true then ((0:Int)<=D/\D<A)/\List.length E<=(140737488355328:Nat)/\List.length (bQ A++List.flatMap b7 F)+List.length (b7 E)<=(9223372036854775807:Nat)/\inR IntKind.i64 (D+(1:Int))/\∃(y:Nat),y<=List.length l/\List.length l - y<List.length l - x/\D+(1:Int)=(↑y:Int)/\bQ A++List.flatMap b7 F++b7 E=bQ A++List.flatMap b7 (List.take y l)/\B else True/\bQ A++List.flatMap b7 F=cM l/\True:=by
 conv=>zeta
 have ln:=hl.len
 have e:∀x,x<=l.length→(bQ (l.length:Int)++(l.take x).flatMap b7).length<=140737488355328:=fun x hx=>by
  have h1:(cM l).length=(bQ (l.length:Int)++(l.take x).flatMap b7).length+((l.drop x).flatMap b7).length:=by
   unfold cM
   rw [←List.length_append,List.append_assoc,←List.flatMap_append,List.take_append_drop]
  omega
 refine ⟨⟨by show (0:Int)<=_;omega,by show _<=(18446744073709551615:Int);omega⟩,⟨0,Nat.zero_le _,rfl,by simp,by repeat' (first | exact trivial | rfl | apply And.intro)⟩,?_⟩
 intro x hx
 refine a7 (fun k=>?_) (fun k=>?_)
 ·replace k:=Xo k
  have k:x < l.length:=by omega
  have hg:l.take (x+1)=l.take x++[l.getD x []]:=by
   rw [List.take_add_one,List.getElem?_eq_getElem k]
   simp [k]
  have he:=e (x+1) k
  rw [hg,List.flatMap_append,←List.append_assoc,List.length_append] at he
  simp only [List.flatMap_cons,List.flatMap_nil,List.append_nil] at he
  simp only [Int.toNat_natCast]
  have ht:(b7 (l.getD x [])).length=(bQ ((l.getD x []).length:Int)).length+(l.getD x []).length:=by unfold b7;rw [List.length_append]
  have hd:l.getD x (dfl Ty.str)=l.getD x []:=rfl
  rw [hd]
  refine ⟨⟨by omega,by omega⟩,by omega,by omega,kA k ln,x+1,k,by omega,rfl,?_,by repeat' (first | exact trivial | rfl | apply And.intro)⟩
  rw [hg,List.flatMap_append,←List.append_assoc]
  simp only [List.flatMap_cons,List.flatMap_nil,List.append_nil]
 ·replace k:¬(x:Int) < (l.length:Int):=fun q=>k (Xd q)
  have k:x=l.length:=by omega
  subst k
  rw [List.take_length]
  exact ⟨trivial,rfl,trivial⟩
theorem xb (l:List Chnk) (hl:Wf (.lst (.st .chunk)) l) (ho:kK l) :
  let A:=(0:Int);let B:=True;let C:=db l;let D:=(↑(List.length l):Int);let E:=kI UInt8=kI UInt8;let F:=false=false;let G:=l=l/\E/\A=A/\F/\B;let H:=dfl (Ty.st SN.chunk);let I:=(9223372036854775807:Nat);let J:=true=true;let K:=l=l/\E/\A=A/\F/\J/\B;let L:=dfl (Ty.st SN.op);let M:=(140737488355328:Nat);let N:=dfl (Ty.int IntKind.i64);let O:=(1:Int);if (!decide (iw l (1000:Int)=A))=true then B/\[]=C.1/\(310:Int)=C.2/\B else (∃(x:Nat),x<=List.length l/\A=(↑x:Int)/\b6 D=prC l x/\G)/\∀(x:Nat),let P:=(↑x:Int);let Q:=A<=P/\P<D;let R:=Int.toNat P;let S:=List.getD l R H;let T:=(↑(List.length S.ops):Int);let U:=List.getD l R default;x<=List.length l→if decide (P<D)=true then Q/\List.length (prC l x)+List.length (b6 S.args)<=I/\Q/\List.length (prC l x++b6 S.args)+List.length (b6 T)<=I/\(∃(x_1:Nat),x_1<=List.length U.ops/\A=(↑x_1:Int)/\prC l x++b6 S.args++b6 T=prC l R++prO U x_1/\P=P/\K)/\∀(x_1:Nat),let V:=(↑x_1:Int);let W:=Int.toNat V;let X:=List.getD S.ops W L;let Y:=cM X.names;let Z:=(↑(List.length X.tos):Int);let a:=List.getD U.ops W default;let b:=V=V/\P=P/\l=l/\E/\A=A/\F/\J/\J/\List.getD S.ops W L=List.getD S.ops W L/\B;x_1<=List.length U.ops→Q/\if decide (V<T)=true then Q/\(A<=V/\V<T)/\List.length (prC l R++prO U x_1)+List.length (b6 X.kind)<=I/\List.length (prC l R++prO U x_1++b6 X.kind)+List.length (b6 X.n)<=I/\List.length X.name<=M/\List.length (prC l R++prO U x_1++b6 X.kind++b6 X.n)+List.length (b7 X.name)<=I/\List.length Y<=M/\List.length (prC l R++prO U x_1++b6 X.kind++b6 X.n++b7 X.name)+List.length Y<=I/\List.length (prC l R++prO U x_1++b6 X.kind++b6 X.n++b7 X.name++cM X.names)+List.length (b6 Z)<=I/\(∃(x_2:Nat),x_2<=List.length a.tos/\A=(↑x_2:Int)/\prC l R++prO U x_1++b6 X.kind++b6 X.n++b7 X.name++cM X.names++b6 Z=prC l R++prO U W++prT a x_2/\b)/\∀(x_2:Nat),let c:=(↑x_2:Int);let d:=prC l R++prO U W++prT a x_2;let e:=List.getD X.tos (Int.toNat c) N;x_2<=List.length a.tos→if decide (c<Z)=true then (A<=c/\c<Z)/\List.length d+List.length (b6 e)<=I/\inR IntKind.i64 (c+O)/\∃(y:Nat),y<=List.length a.tos/\List.length a.tos - y<List.length a.tos - x_2/\c+O=(↑y:Int)/\prC l R++prO U W++prT a x_2++b6 e=prC l R++prO U W++prT a y/\b else List.length d+List.length (b6 X.pos)<=I/\inR IntKind.i64 (V+O)/\∃(y:Nat),y<=List.length U.ops/\List.length U.ops - y<List.length U.ops - x_1/\V+O=(↑y:Int)/\prC l R++prO U W++prT a x_2++b6 X.pos=prC l R++prO U y/\P=P/\K else inR IntKind.i64 (P+O)/\∃(y:Nat),y<=List.length l/\List.length l - y<List.length l - x/\P+O=(↑y:Int)/\prC l R++prO U x_1=prC l y/\G else B/\prC l x=C.1/\A=C.2/\B:=by
 conv=>zeta
 have ln:=hl.len
 have hT:(kJ l).length<=8796093022208:=ho
 have dC:dfl (Ty.st SN.chunk)=(default:Chnk):=rfl
 have dO:dfl (Ty.st SN.op)=(default:Opn):=rfl
 have dI:dfl (Ty.int IntKind.i64)=(0:Int):=rfl
 simp only [Int.toNat_natCast,dC,dO,dI]
 refine a7 (fun h=>?_) (fun h=>?_)
 ·have h:iw l 1000≠0:=by simpa using h
  unfold db;rw [if_pos h];exact ⟨trivial,rfl,rfl,trivial⟩
 have h:iw l 1000=0:=by simpa using h
 refine ⟨⟨0,Nat.zero_le _,rfl,by unfold prC;simp,by repeat' (first | exact trivial | rfl | apply And.intro)⟩,?_⟩
 intro x hx
 have px:=wB l x
 refine a7 (fun k=>?_) (fun k=>?_)
 ·replace k:=Xo k
  have k:x < l.length:=by omega
  have eC:=qa k
  have sC:=q8 k
  generalize l.getD x default=C at *
  have oC:=qd C
  have a1:=bO C.args
  have a2:=bO (C.ops.length:Int)
  refine ⟨⟨by omega,by omega⟩,by (try simp only [List.length_append]);omega,⟨by omega,by omega⟩,by (try simp only [List.length_append]);omega,⟨0,Nat.zero_le _,rfl,by unfold prO zk;simp,by repeat' (first | exact trivial | rfl | apply And.intro)⟩,?_⟩
  intro y hy
  have py:=wD C y
  refine ⟨⟨by omega,by omega⟩,a7 (fun m=>?_) (fun m=>?_)⟩
  ·replace m:=Xo m
   have m:y < C.ops.length:=by omega
   have eO:=qb m
   have sO:=q9 m
   have lO:C.ops.length<=C.ops.length:=Nat.le_refl _
   generalize C.ops.getD y default=O at *
   obtain ⟨b1,b2,b3⟩:=lg O
   have oT:=lh O
   have c1:=bO O.kind
   have c2:=bO O.n
   have c3:=bO (O.tos.length:Int)
   have c4:=bO O.pos
   refine ⟨⟨by omega,by omega⟩,⟨by omega,by omega⟩,by (try simp only [List.length_append]);omega,by (try simp only [List.length_append]);omega,by omega,by (try simp only [List.length_append]);omega,by omega,by (try simp only [List.length_append]);omega,by (try simp only [List.length_append]);omega,⟨0,Nat.zero_le _,rfl,by unfold prT wA;simp,by repeat' (first | exact trivial | rfl | apply And.intro)⟩,?_⟩
   intro z hz
   have pz:=BC O z
   refine a7 (fun n=>?_) (fun n=>?_)
   ·replace n:=Xo n
    have n:z < O.tos.length:=by omega
    have sT:=uH n
    have c5:=bO (O.tos.getD z 0)
    refine ⟨⟨by omega,by omega⟩,by (try simp only [List.length_append]);omega,ag (by omega) (by omega),z+1,by omega,by omega,by omega,by rw [sT];simp only [List.append_assoc],by repeat' (first | exact trivial | rfl | apply And.intro)⟩
   ·replace n:¬(z:Int) < (O.tos.length:Int):=fun q=>n (Xd q)
    have n:z=O.tos.length:=by omega
    subst n
    refine ⟨by (try simp only [List.length_append]);omega,ag (by omega) (by omega),y+1,by omega,by omega,by omega,by rw [sO,←y0];simp only [List.append_assoc],by repeat' (first | exact trivial | rfl | apply And.intro)⟩
  ·replace m:¬(y:Int) < (C.ops.length:Int):=fun q=>m (Xd q)
   have m:y=C.ops.length:=by omega
   subst m
   refine ⟨ag (by omega) (by omega),x+1,by omega,by omega,by omega,by rw [sC,xZ],by repeat' (first | exact trivial | rfl | apply And.intro)⟩
 ·replace k:¬(x:Int) < (l.length:Int):=fun q=>k (Xd q)
  have k:x=l.length:=by omega
  subst k
  have e:db l=(kJ l,0):=by unfold db;rw [if_neg (fun z=>z h)]
  rw [e,xY]
  exact ⟨trivial,rfl,rfl,trivial⟩
theorem Co (s:Str) (p:Int) (hs:Wf .str s) :
  let A:=(0:Int);let B:=True;let C:=aj s p;let D:=A=C.1;let E:=A=C.2.1;let F:=B/\D/\E/\(2:Int)=C.2.2/\B;let G:=(↑(List.length s):Int);let H:=Int.toNat p;let I:=List.take (Int.toNat G) s;let J:=B/\D/\E/\(10:Int)=C.2.2/\B;let K:=List.drop H I;let L:=(↑(List.length K):Int);let M:=A<=A/\A<L;let N:=(0:UInt8);let O:=(↑(UInt8.toNat (List.getD K (Int.toNat A) N)):Int);let P:=(247:Int);let Q:=(1:Int);let R:=A=C.2.2/\B;let S:=O - P;let T:=inR IntKind.i64 (O - P+Q);let U:=List.getD s H N;let V:=(247:Nat);let W:=(Int.toNat p+(1:Nat));let X:=false=false;let Y:=List.drop H I=List.drop H I/\p=p/\A=A/\A=A/\A=A/\X/\X/\X/\O - P=O - P/\X/\B;let Z:=(256:Int);if decide (p<A)=true then F else if decide (G<p)=true then F else (A<=p/\p<=G/\G<=G)/\if decide (List.drop H I=[])=true then J else M/\if decide (O<=P)=true then M/\inR IntKind.u64 O/\inR IntKind.i64 (p+Q)/\B/\O=C.1/\p+Q=C.2.1/\R else M/\inR IntKind.i64 O/\inR IntKind.i64 S/\T/\if decide (L<O - P+Q)=true then J else (∃(x:Nat),x<=UInt8.toNat U - V/\Q=(↑x:Int)+Q/\A=(↑(gp s W x):Int)/\Y)/\∀(x:Nat),let a:=(↑x:Int);let b:=(↑(gp s W x):Int);let c:=(↑(UInt8.toNat (List.getD K (Int.toNat (a+Q)) N)):Int);x<=UInt8.toNat U - V→if decide (a+Q<=O - P)=true then inR IntKind.u64 (b*Z)/\(A<=a+Q/\a+Q<L)/\inR IntKind.u64 c/\inR IntKind.u64 (b*Z+c)/\inR IntKind.i64 (a+Q+Q)/\∃(y:Nat),y<=UInt8.toNat U - V/\UInt8.toNat U - V - y<UInt8.toNat U - V - x/\a+Q+Q=(↑y:Int)+Q/\b*Z+c=(↑(gp s W y):Int)/\Y else T/\(A<=A/\A<=O - P+Q/\O - P+Q<=L)/\if (!decide (bQ b=List.drop (Int.toNat A) (List.take (Int.toNat (O - P+Q)) K)))=true then B/\D/\E/\(11:Int)=C.2.2/\B else inR IntKind.i64 (p+S)/\inR IntKind.i64 (p+S+Q)/\B/\b=C.1/\p+S+Q=C.2.1/\R:=by
 conv=>zeta
 have ln:=hs.str
 have bad:p < 0∨(s.length:Int) < p→aj s p=(0,0,2):=fun h=>by unfold aj;rw [if_pos h]
 refine a7 (fun h=>?_) (fun h=>?_)
 ·rw [bad (.inl (Xo h))];exact ⟨trivial,rfl,rfl,rfl,trivial⟩
 replace h:¬p < 0:=fun q=>h (Xd q)
 refine a7 (fun h2=>?_) (fun h2=>?_)
 ·rw [bad (.inr (Xo h2))];exact ⟨trivial,rfl,rfl,rfl,trivial⟩
 replace h2:¬(s.length:Int) < p:=fun q=>h2 (Xd q)
 obtain ⟨q,rfl⟩:=Int.eq_ofNat_of_zero_le (show 0<=p by omega)
 clear bad
 have hq:q<=s.length:=by omega
 have td:=rJ hq
 have g0:(s.drop q).getD 0 (0:UInt8)=s.getD q 0:=by simp [List.getD_eq_getElem?_getD,List.getElem?_drop]
 have gx:∀x:Nat,(s.drop q).getD (x+1) (0:UInt8)=s.getD (q+1+x) 0:=fun x=>by
  simp only [List.getD_eq_getElem?_getD,List.getElem?_drop]
  rw [show q+(x+1)=q+1+x by omega]
 have gl:(s.drop q).length=s.length - q:=List.length_drop
 have tx:∀x:Nat,((x:Int)+1).toNat=x+1:=fun x=>by omega
 simp only [Int.toNat_natCast,List.take_length,Int.toNat_zero,List.drop_zero,tx,g0,gx,gl]
 have hb:=(s.getD q 0).toNat_lt
 have eb:bI (s.getD q 0)=(((s.getD q 0).toNat:Nat):Int):=rfl
 rw [eb] at td
 refine ⟨⟨by omega,by omega,by omega⟩,a7 (fun k=>?_) (fun k=>?_)⟩
 ·have k:=Xo k
  have k:q=s.length:=by
   have:=congrArg List.length k
   rw [gl] at this
   simp at this
   omega
  rw [td,if_pos k];exact ⟨trivial,rfl,rfl,rfl,trivial⟩
 have k:¬q=s.length:=fun z=>k (Xd (List.drop_eq_nil_of_le (by omega)))
 rw [if_neg k] at td
 refine ⟨⟨by omega,by omega⟩,a7 (fun m=>?_) (fun m=>?_)⟩
 ·have m:=Xo m
  rw [if_pos m] at td
  rw [td]
  exact ⟨⟨by omega,by omega⟩,⟨by show (0:Int)<=_;omega,by show _<=(18446744073709551615:Int);omega⟩,ag (by omega) (by omega),trivial,rfl,rfl,rfl,trivial⟩
 have m:¬(((s.getD q 0).toNat:Nat):Int)<=247:=fun z=>m (Xd z)
 rw [if_neg m] at td
 refine ⟨⟨by omega,by omega⟩,ag (by omega) (by omega),ag (by omega) (by omega),ag (by omega) (by omega),a7 (fun w=>?_) (fun w=>?_)⟩
 ·have w:=Xo w
  rw [if_pos (by omega)] at td
  rw [td];exact ⟨trivial,rfl,rfl,rfl,trivial⟩
 have w:¬((s.length - q:Nat):Int) < (((s.getD q 0).toNat:Nat):Int) - 247+1:=fun z=>w (Xd z)
 rw [if_neg (by omega)] at td
 refine ⟨⟨0,by omega,rfl,rfl,by repeat' (first | exact trivial | rfl | apply And.intro)⟩,?_⟩
 intro x hx
 have hv:=tn s (q+1) x
 refine a7 (fun v=>?_) (fun v=>?_)
 ·have v:=Xo v
  have hp:(256:Nat) ^ x<=256 ^ 7:=Nat.pow_le_pow_right (by omega) (by omega)
  have hc:=(s.getD (q+1+x) 0).toNat_lt
  refine ⟨⟨by show (0:Int)<=_;omega,by show _<=(18446744073709551615:Int);omega⟩,⟨by omega,by omega⟩,⟨by show (0:Int)<=_;omega,by show _<=(18446744073709551615:Int);omega⟩,⟨by show (0:Int)<=_;omega,by show _<=(18446744073709551615:Int);omega⟩,ag (by omega) (by omega),x+1,by omega,by omega,by omega,?_,by repeat' (first | exact trivial | rfl | apply And.intro)⟩
  have e1:gp s (q+1) (x+1)=gp s (q+1) x *256+(s.getD (q+1+x) 0).toNat:=rfl
  rw [e1]
  omega
 ·have v:¬(x:Int)+1<=(((s.getD q 0).toNat:Nat):Int) - 247:=fun z=>v (Xd z)
  have ex:x=(s.getD q 0).toNat - 247:=by omega
  have et:((((s.getD q 0).toNat:Nat):Int) - 247+1).toNat=(s.getD q 0).toNat - 247+1:=by omega
  rw [←ex] at td
  rw [et,←ex]
  refine ⟨ag (by omega) (by omega),⟨by omega,by omega,by omega⟩,a7 (fun u=>?_) (fun u=>?_)⟩
  ·have u:¬bQ ((gp s (q+1) x:Nat):Int)=(s.drop q).take (x+1):=by simpa using u
   rw [if_neg u] at td
   rw [td];exact ⟨trivial,rfl,rfl,rfl,trivial⟩
  ·have u:bQ ((gp s (q+1) x:Nat):Int)=(s.drop q).take (x+1):=by simpa using u
   rw [if_pos u] at td
   rw [td]
   exact ⟨ag (by omega) (by omega),ag (by omega) (by omega),trivial,rfl,by simp only;omega,rfl,trivial⟩
theorem zO (s:Str) (p:Int) (hs:Wf .str s) :
  let A:=aj s p;let B:=(0:Int);let C:=True;let D:=aT s p;let E:=(↑(List.length s):Int);let F:=List.drop (Int.toNat A.2.1) (List.take (Int.toNat E) s);let G:=(↑(List.length F):Int);if (!decide (A.2.2=B))=true then C/\[]=D.1/\B=D.2.1/\A.2.2=D.2.2/\C else (B<=A.2.1/\A.2.1<=E/\E<=E)/\inR IntKind.u64 G/\if decide (G<A.1)=true then C/\[]=D.1/\B=D.2.1/\(10:Int)=D.2.2/\C else (B<=B/\B<=A.1/\A.1<=G)/\inR IntKind.i64 A.1/\inR IntKind.i64 (A.2.1+A.1)/\C/\List.drop (Int.toNat B) (List.take (Int.toNat A.1) F)=D.1/\A.2.1+A.1=D.2.1/\B=D.2.2/\C:=by
 conv=>zeta
 have ln:=hs.str
 obtain ⟨h1,h2,h3⟩:=cZ s p
 unfold aT
 refine a7 (fun h=>?_) (fun h=>?_)
 ·have h:(aj s p).2.2≠0:=by simpa using h
  rw [if_pos h];exact ⟨trivial,rfl,rfl,rfl,trivial⟩
 have h:(aj s p).2.2=0:=by simpa using h
 obtain ⟨a1,a2,a3⟩:=h3 h
 rw [if_neg (show ¬(aj s p).2.2≠0 from fun q=>q h)]
 unfold AtS InU at *
 have el:((s.take (s.length:Int).toNat).drop (aj s p).2.1.toNat)=s.drop (aj s p).2.1.toNat:=by rw [Int.toNat_natCast,List.take_length]
 have en:(((s.drop (aj s p).2.1.toNat).length:Nat):Int)=(s.length:Int) - (aj s p).2.1:=by rw [List.length_drop];omega
 rw [el,en]
 refine ⟨⟨by omega,by omega,by omega⟩,⟨by show (0:Int)<=_;omega,by show _<=(18446744073709551615:Int);omega⟩,a7 (fun k=>?_) (fun k=>?_)⟩
 ·rw [if_pos (Xo k)];exact ⟨trivial,rfl,rfl,rfl,trivial⟩
 have k:¬(s.length:Int) - (aj s p).2.1 < (aj s p).1:=fun q=>k (Xd q)
 rw [if_neg k]
 refine ⟨⟨by omega,by omega,by omega⟩,ag (by omega) (by omega),ag (by omega) (by omega),trivial,?_,rfl,rfl,trivial⟩
 simp only
 rw [show (0:Int).toNat=0 from rfl,List.drop_zero,List.take_drop]
 congr 2
 omega
theorem zQ (s:Str) (p:Int) (hs:Wf .str s) (ho:s.length<=1099511627776) :
  let A:=aj s p;let B:=(0:Int);let C:=True;let D:=bc s p;let E:=(↑(List.length s):Int);let F:=(1:Int);let G:=A.2.2=A.2.2;if (!decide (A.2.2=B))=true then C/\D.1=[]/\B=D.2.1/\A.2.2=D.2.2/\C else (∃(x:Nat × Int × List Str × Int),(AtS s x.2.2.2/\E+F<=(↑x.1:Int)+x.2.2.2/\x.2.1+(↑(List.length x.2.2.1):Int)=A.1/\B<=x.2.1/\(↑(wL x.2.2.1):Int)<=x.2.2.2/\ca s x.1 x.2.1 x.2.2.1 x.2.2.2=bc s p)/\x.2.2.1=[]/\A.2.1=x.2.2.2/\s=s/\A.1=A.1/\G/\false=false/\List.length x.2.2.1=(0:Nat)/\C)/\∀(x:Nat × Int × List Str × Int),let H:=(↑(List.length x.2.2.1):Int);let I:=aT s x.2.2.2;AtS s x.2.2.2/\E+F<=(↑x.1:Int)+x.2.2.2/\x.2.1+H=A.1/\B<=x.2.1/\(↑(wL x.2.2.1):Int)<=x.2.2.2/\ca s x.1 x.2.1 x.2.2.1 x.2.2.2=bc s p→inR IntKind.u64 H/\if decide (H<A.1)=true then if (!decide (I.2.2=B))=true then C/\D.1=[]/\B=D.2.1/\I.2.2=D.2.2/\C else (List.length x.2.2.1=List.length x.2.2.1/\(List.length x.2.2.1+List.length [I.1])*(16:Nat)<=(140737488355328:Nat))/\∃(y:Nat × Int × List Str × Int),(AtS s y.2.2.2/\E+F<=(↑y.1:Int)+y.2.2.2/\y.2.1+(↑(List.length y.2.2.1):Int)=A.1/\B<=y.2.1/\(↑(wL y.2.2.1):Int)<=y.2.2.2/\ca s y.1 y.2.1 y.2.2.1 y.2.2.2=bc s p)/\y.1<x.1/\x.2.2.1++[I.1]=y.2.2.1/\I.2.1=y.2.2.2/\s=s/\A.1=A.1/\G/\false=false/\List.length (x.2.2.1++[I.1])=List.length y.2.2.1/\C else C/\x.2.2.1=D.1/\x.2.2.2=D.2.1/\B=D.2.2/\C:=by
 conv=>zeta
 have ln:=hs.str
 obtain ⟨h1,h2,h3⟩:=cZ s p
 refine a7 (fun h=>?_) (fun h=>?_)
 ·have h:(aj s p).2.2≠0:=by simpa using h
  unfold bc
  rw [if_pos h];exact ⟨trivial,rfl,rfl,rfl,trivial⟩
 have h:(aj s p).2.2=0:=by simpa using h
 obtain ⟨a1,a2,a3⟩:=h3 h
 have i1:=h1.1
 have i2:(aj s p).1<=18446744073709551615:=h1.2
 refine ⟨⟨(s.length+1,(aj s p).1,[],(aj s p).2.1),⟨a2,by unfold AtS at a2;simp only;omega,by simp,i1,by unfold AtS at a2;simp only [wL,List.map_nil,List.sum_nil];omega,by unfold bc;rw [if_neg (by simp [h])]⟩,by repeat' (first | exact trivial | rfl | apply And.intro)⟩,?_⟩
 rintro ⟨k,n,acc,q⟩ ⟨g1,g2,g3,g0,g4,g5⟩
 simp only at g1 g2 g3 g0 g4 g5 ⊢
 obtain ⟨t1,t2,t3⟩:=ka s q
 have hw:=rB acc
 cases k with
 | zero=>unfold AtS at g1;omega
 | succ k=>
 unfold ca at g5
 refine ⟨⟨by show (0:Int)<=_;omega,by show _<=(18446744073709551615:Int);omega⟩,a7 (fun r=>?_) (fun r=>?_)⟩
 ·replace r:=Xo r
  rw [if_pos (show 0 < n by omega)] at g5
  refine a7 (fun u=>?_) (fun u=>?_)
  ·have u:(aT s q).2.2≠0:=by simpa using u
   rw [if_pos u] at g5
   rw [←g5]
   exact ⟨trivial,rfl,rfl,rfl,trivial⟩
  ·have u:(aT s q).2.2=0:=by simpa using u
   rw [if_neg (by simp [u])] at g5
   obtain ⟨v1,v2,v3⟩:=t1 u
   unfold AtS at *
   refine ⟨⟨trivial,by simp only [List.length_singleton];omega⟩,(k,n - 1,acc++[(aT s q).1],(aT s q).2.1),⟨v2,by simp only;omega,by simp only [List.length_append,List.length_singleton];omega,by simp only;omega,?_,g5⟩,by simp,by repeat' (first | exact trivial | rfl | apply And.intro)⟩
   simp only [wy]
   simp [wL] at g4 ⊢
   omega
 ·replace r:¬(acc.length:Int) < (aj s p).1:=fun z=>r (Xd z)
  rw [if_neg (show ¬0 < n by omega)] at g5
  rw [←g5]
  exact ⟨trivial,rfl,rfl,rfl,trivial⟩
theorem Cp (s:Str) (p:Int) (b:Bool) (hs:Wf .str s) :
  let A:=(0:Int);let B:=rtk s p b;let C:=True/\A=B.1/\A=B.2.1/\false=B.2.2/\True;let D:=aj s p;if (!b)=true then C else if (!decide (D.2.2=A))=true then C else if decide ((9223372036854775807:Int)<D.1)=true then C else inR IntKind.i64 D.1/\True/\D.1=B.1/\D.2.1=B.2.1/\true=B.2.2/\True:=by
 conv=>zeta
 obtain ⟨h1,h2,h3⟩:=cZ s p
 unfold InU at h1
 cases b with
 | false=>
  have e:rtk s p false=(0,0,false):=by unfold rtk;rw [show (!false)=true from rfl,qj];rfl
  rw [e]
  exact ⟨trivial,rfl,rfl,rfl,trivial⟩
 | true=>
 rw [wK]
 refine a7 (fun z=>by cases z) (fun _=>?_)
 unfold tkN
 refine a7 (fun k=>?_) (fun k=>?_)
 ·have k:(aj s p).2.2≠0:=by simpa using k
  rw [if_pos (.inr (.inl k))];exact ⟨trivial,rfl,rfl,rfl,trivial⟩
 have k:(aj s p).2.2=0:=by simpa using k
 refine a7 (fun m=>?_) (fun m=>?_)
 ·rw [if_pos (.inr (.inr (Xo m)))];exact ⟨trivial,rfl,rfl,rfl,trivial⟩
 have m:¬9223372036854775807 < (aj s p).1:=fun q=>m (Xd q)
 rw [if_neg (fun z=>z.elim (fun z=>by cases z) (fun z=>z.elim (fun z=>z k) m))]
 exact ⟨ag (by omega) (by omega),trivial,rfl,rfl,rfl,trivial⟩
theorem Er (s:Str) (p:Int) (hs:Wf .str s) (ho:AtS s p/\s.length<=68719476736) :
  let A:=rtk s p true;let B:=rtk s A.2.1 A.2.2;let C:=True;let D:=(0:Int);let E:=gd s p;let F:=C/\D=E.1.kind/\D=E.1.n/\[]=E.1.name/\E.1.names=[]/\E.1.tos=[]/\D=E.1.pos/\D=E.2.1/\false=E.2.2/\C;let G:=aT s B.2.1;let H:=bc s G.2.1;let I:=op5 s p false;let J:=(1:Int);let K:=rtk s H.2.1 true;let L:=D=D;let M:=false=false;let N:=H.2.2=H.2.2;let O:=op1 s p false;let P:=op2 s p false;let Q:=op3 s p false;let R:=op4 s p false;let S:=L/\L/\kI UInt8=kI UInt8/\L/\C;let T:=O.1=E.1.kind;let U:=P.1=E.1.n;let V:=Q.1=E.1.name;let W:=R.1=E.1.names;if (!B.2.2)=true then F else if (!decide (G.2.2=D))=true then F else List.length s<=(1099511627776:Nat)/\if (!decide (H.2.2=D))=true then F else (∃(x:Nat × Int × List Int × Int × Bool),(AtS s x.2.2.2.1/\x.2.1<=I.1/\bW s x.2.2.2.1 x.2.2.2.2<=(↑x.1:Int)/\(↑(List.length x.2.2.1):Int)<=x.2.2.2.1+aB x.2.2.2.2 J/\toL s x.1 x.2.1 x.2.2.1 x.2.2.2.1 x.2.2.2.2=op6 s p false)/\D=I.1 - x.2.1/\K.2.1=pz x.2.2.2.1 x.2.2.2.2/\K.2.2=!x.2.2.2.2/\s=s/\L/\M/\A.1=A.1/\B.1=B.1/\M/\G.1=G.1/\N/\M/\H.1=H.1/\M/\K.1=K.1/\A.1=O.1/\B.1=P.1/\G.1=Q.1/\H.1=R.1/\x.2.2.1=[]/\L/\List.length x.2.2.1=(0:Nat)/\S)/\∀(x:Nat × Int × List Int × Int × Bool),let X:=rtk s (pz x.2.2.2.1 x.2.2.2.2) !x.2.2.2.2;let Y:=C/\T/\U/\V/\W/\x.2.2.1=E.1.tos/\X.1=E.1.pos/\X.2.1=E.2.1/\X.2.2=E.2.2/\C;AtS s x.2.2.2.1/\x.2.1<=I.1/\bW s x.2.2.2.1 x.2.2.2.2<=(↑x.1:Int)/\(↑(List.length x.2.2.1):Int)<=x.2.2.2.1+aB x.2.2.2.2 J/\toL s x.1 x.2.1 x.2.2.1 x.2.2.2.1 x.2.2.2.2=op6 s p false→if (!x.2.2.2.2)=true then if decide (I.1 - x.2.1<K.1)=true then (List.length x.2.2.1=List.length x.2.2.1/\(List.length x.2.2.1+List.length [X.1])*(8:Nat)<=(140737488355328:Nat))/\inR IntKind.i64 (I.1 - x.2.1+J)/\∃(y:Nat × Int × List Int × Int × Bool),(AtS s y.2.2.2.1/\y.2.1<=I.1/\bW s y.2.2.2.1 y.2.2.2.2<=(↑y.1:Int)/\(↑(List.length y.2.2.1):Int)<=y.2.2.2.1+aB y.2.2.2.2 J/\toL s y.1 y.2.1 y.2.2.1 y.2.2.2.1 y.2.2.2.2=op6 s p false)/\y.1<x.1/\I.1 - x.2.1+J=I.1 - y.2.1/\X.2.1=pz y.2.2.2.1 y.2.2.2.2/\X.2.2=!y.2.2.2.2/\s=s/\L/\M/\A.1=A.1/\B.1=B.1/\M/\G.1=G.1/\N/\M/\H.1=H.1/\M/\K.1=K.1/\O.1=O.1/\P.1=P.1/\Q.1=Q.1/\R.1=R.1/\x.2.2.1++[X.1]=y.2.2.1/\L/\List.length (x.2.2.1++[X.1])=List.length y.2.2.1/\S else Y else Y:=by
 conv=>zeta
 obtain ⟨ha,hl⟩:=ho
 have q1:tkN s p false=op1 s p false:=rfl
 have q2:tkN s (op1 s p false).2.1 (op1 s p false).2.2=op2 s p false:=rfl
 have q3:aT s (op2 s p false).2.1=op3 s p false:=rfl
 have q4:bc s (op3 s p false).2.1=op4 s p false:=rfl
 simp only [wK,BV,q1,q2]
 refine a7 (fun h=>?_) (fun h=>?_)
 ·have h:(op2 s p false).2.2=true:=by simpa using h
  have e:gd s p=(default,0,false):=by unfold gd;rw [if_pos (.inl h)]
  rw [e];repeat' (first | exact trivial | rfl | apply And.intro)
 have h:(op2 s p false).2.2=false:=by simpa using h
 have e2:pz (op2 s p false).2.1 (op2 s p false).2.2=(op2 s p false).2.1:=by rw [h];rfl
 have q5:tkN s (op4 s p false).2.1 false=op5 s p false:=by unfold op5;rw [h]
 simp only [e2,q3,q4,q5]
 refine a7 (fun k=>?_) (fun k=>?_)
 ·have k:(op3 s p false).2.2≠0:=by simpa using k
  have e:gd s p=(default,0,false):=by unfold gd;rw [if_pos (.inr (.inl k))]
  rw [e];repeat' (first | exact trivial | rfl | apply And.intro)
 have k:(op3 s p false).2.2=0:=by simpa using k
 refine ⟨by omega,a7 (fun m=>?_) (fun m=>?_)⟩
 ·have m:(op4 s p false).2.2≠0:=by simpa using m
  have e:gd s p=(default,0,false):=by unfold gd;rw [if_pos (.inr (.inr m))]
  rw [e];repeat' (first | exact trivial | rfl | apply And.intro)
 have m:(op4 s p false).2.2=0:=by simpa using m
 have n1:¬((op2 s p false).2.2=true∨(op3 s p false).2.2≠0):=fun z=>z.elim (fun z=>by rw [h] at z;cases z) (fun z=>z k)
 have e:opF s p false=(⟨(op1 s p false).1,(op2 s p false).1,(op3 s p false).1,(op4 s p false).1,(op6 s p false).1,(op7 s p false).1⟩,(op7 s p false).2.1,(op7 s p false).2.2):=by unfold opF;rw [if_neg n1,if_neg (fun z=>z m)]
 have er:gd s p=((opF s p false).1,pz (opF s p false).2.1 (opF s p false).2.2,!(opF s p false).2.2):=by unfold gd;rw [if_neg (fun z=>z.elim (fun z=>n1 (.inl z)) (fun z=>z.elim (fun z=>z k) (fun z=>z m)))]
 obtain ⟨g1,g2⟩:=DH ha k m
 have g0:0<=(op5 s p false).1:=by
  unfold op5 tkN
  split
  ·exact Int.le_refl _
  ·exact (cZ s _).1.1
 have fin:∀(l:List Int) (q:Int) (c:Bool),(l,q,c)=op6 s p false→True/\(op1 s p false).1=(gd s p).1.kind/\(op2 s p false).1=(gd s p).1.n/\(op3 s p false).1=(gd s p).1.name/\(op4 s p false).1=(gd s p).1.names/\
   l=(gd s p).1.tos/\(tkN s q c).1=(gd s p).1.pos/\pz (tkN s q c).2.1 (tkN s q c).2.2=(gd s p).2.1/\(!(tkN s q c).2.2)=(gd s p).2.2/\True:=by
  intro l q c hq
  have e7:tkN s q c=op7 s p false:=by unfold op7;rw [←hq]
  rw [er,e,e7]
  simp only [←hq]
  repeat' (first | exact trivial | rfl | apply And.intro)
 refine ⟨⟨(s.length+2,(op5 s p false).1,[],(op5 s p false).2.1,(op5 s p false).2.2),⟨g1,Int.le_refl _,fe g1,by have:=g1.1;simp only [List.length_nil];unfold aB;split <;> omega,rfl⟩,by simp only;omega,by repeat' (first | exact trivial | rfl | apply And.intro)⟩,?_⟩
 rintro ⟨f,n,l,q,c⟩ ⟨i1,i2,i3,i4,i5⟩
 simp only at i1 i2 i3 i4 i5 ⊢
 cases f with
 | zero=>have:=dJ (b:=c) i1;omega
 | succ f=>
 unfold toL at i5
 refine a7 (fun t=>?_) (fun t=>?_)
 ·have t:c=false:=by simpa using t
  subst t
  refine a7 (fun r=>?_) (fun r=>?_)
  ·replace r:=Xo r
   have r:0 < n:=by omega
   rw [if_pos ⟨r,rfl⟩] at i5
   obtain ⟨j1,j2,j3,j4,j5⟩:=gQ (b:=false) i1
   have hs:=da i1 j3 (fun q=>(j5 q).2)
   have i6:=i1.2
   simp only [aB,Bool.false_eq_true,if_false] at i4
   refine ⟨⟨by trivial,by simp only [List.length_singleton];omega⟩,ag (by omega) (by omega),(f,n - 1,l++[(tkN s q false).1],(tkN s q false).2.1,(tkN s q false).2.2),⟨j3,by simp only;omega,by simp only;omega,?_,i5⟩,by simp,by simp only;omega,by repeat' (first | exact trivial | rfl | apply And.intro)⟩
   simp only [List.length_append,List.length_singleton]
   unfold aB
   split
   ·omega
   ·rename_i z
    have:=(j5 (Bool.eq_false_iff.2 z)).2
    omega
  ·replace r:¬(op5 s p false).1 - n < (op5 s p false).1:=fun z=>r (Xd z)
   rw [if_neg (fun z=>by omega)] at i5
   exact fin l q false i5
 ·have t:c=true:=by simpa using t
  rw [if_neg (fun z=>by rw [t] at z;cases z.2)] at i5
  exact fin l q c i5
theorem xc (s:Str) (hs:Wf .str s) (ho:s.length<=68719476736) :
  let A:=(0:Int);let B:=tkN s A false;let C:=(4:Int);let D:=rtk s A true;let E:=s=s;let F:=A=A;let G:=D.1=D.1;let H:=True;let I:=(3:Int);let J:=(List.length s+(2:Nat));let K:=(140737488355328:Nat);let L:=(1:Int);let M:=dD s;let N:=H/\M.1=[]/\(310:Int)=M.2/\H;let O:=A=M.2/\H;(∃(x:Nat × Int × (List Chnk × List Chnk) × Int × Bool),(AtS s x.2.2.2.1/\x.2.1<=B.1/\bW s x.2.2.2.1 x.2.2.2.2<=(↑x.1:Int)/\(↑(wCs x.2.2.1.1):Int)<=x.2.2.2.1+aB x.2.2.2.2 C/\List.length x.2.2.1.2=List.length x.2.2.1.1/\(x.2.2.2.2=false→x.2.2.1.2=x.2.2.1.1)/\chL s x.1 x.2.1 x.2.2.1.1 x.2.2.2.1 x.2.2.2.2=dB s)/\A=B.1 - x.2.1/\x.2.2.1.2=[]/\D.2.1=pz x.2.2.2.1 x.2.2.2.2/\D.2.2=!x.2.2.2.2/\E/\F/\G/\List.length x.2.2.1.2=(0:Nat)/\H)/\∀(x:Nat × Int × (List Chnk × List Chnk) × Int × Bool),let P:=rtk s (pz x.2.2.2.1 x.2.2.2.2) !x.2.2.2.2;let Q:=rtk s P.2.1 P.2.2;let R:=B.1 - x.2.1=B.1 - x.2.1;let S:=x.2.2.1.2=x.2.2.1.2;let T:=List.length x.2.2.1.2=List.length x.2.2.1.2;let U:=inR IntKind.i64 (B.1 - x.2.1+L);let V:=db x.2.2.1.2;let W:=if (!!x.2.2.2.2)=true then N else kK x.2.2.1.2/\if (!decide (V.2=A))=true then N else if (!decide (V.1=s))=true then N else H/\x.2.2.1.2=M.1/\O;AtS s x.2.2.2.1/\x.2.1<=B.1/\bW s x.2.2.2.1 x.2.2.2.2<=(↑x.1:Int)/\(↑(wCs x.2.2.1.1):Int)<=x.2.2.2.1+aB x.2.2.2.2 C/\List.length x.2.2.1.2=List.length x.2.2.1.1/\(x.2.2.2.2=false→x.2.2.1.2=x.2.2.1.1)/\chL s x.1 x.2.1 x.2.2.1.1 x.2.2.2.1 x.2.2.2.2=dB s→if (!x.2.2.2.2)=true then if decide (B.1 - x.2.1<D.1)=true then (∃(x_1:Nat × Int × (List Opn × List Opn) × Int × Bool),(AtS s x_1.2.2.2.1/\x_1.2.1<=Q.1/\bW s x_1.2.2.2.1 x_1.2.2.2.2<=(↑x_1.1:Int)/\(↑(wOs x_1.2.2.1.1):Int)<=x_1.2.2.2.1+aB x_1.2.2.2.2 I/\List.length x_1.2.2.1.2=List.length x_1.2.2.1.1/\(x_1.2.2.2.2=false→x_1.2.2.1.2=x_1.2.2.1.1)/\cr s x_1.1 x_1.2.1 x_1.2.2.1.1 x_1.2.2.2.1 x_1.2.2.2.2=cr s J Q.1 [] Q.2.1 !Q.2.2)/\A=Q.1 - x_1.2.1/\Q.2.1=pz x_1.2.2.2.1 x_1.2.2.2.2/\Q.2.2=!x_1.2.2.2.2/\R/\S/\E/\F/\G/\true=true/\Q.1=Q.1/\P.1=P.1/\x_1.2.2.1.2=[]/\List.length x_1.2.2.1.2=(0:Nat)/\T/\H)/\∀(x_1:Nat × Int × (List Opn × List Opn) × Int × Bool),let X:=!x_1.2.2.2.2;let Y:=pz x_1.2.2.2.1 x_1.2.2.2.2;let Z:=gd s Y;let a:=[{args:=P.1,ops:=x_1.2.2.1.2:Chnk}];let b:=(T/\(List.length x.2.2.1.2+List.length a)*(32:Nat)<=K)/\U/\∃(y:Nat × Int × (List Chnk × List Chnk) × Int × Bool),(AtS s y.2.2.2.1/\y.2.1<=B.1/\bW s y.2.2.2.1 y.2.2.2.2<=(↑y.1:Int)/\(↑(wCs y.2.2.1.1):Int)<=y.2.2.2.1+aB y.2.2.2.2 C/\List.length y.2.2.1.2=List.length y.2.2.1.1/\(y.2.2.2.2=false→y.2.2.1.2=y.2.2.1.1)/\chL s y.1 y.2.1 y.2.2.1.1 y.2.2.2.1 y.2.2.2.2=dB s)/\y.1<x.1/\B.1 - x.2.1+L=B.1 - y.2.1/\x.2.2.1.2++a=y.2.2.1.2/\pz x_1.2.2.2.1 x_1.2.2.2.2=pz y.2.2.2.1 y.2.2.2.2/\X=!y.2.2.2.2/\E/\F/\G/\List.length (x.2.2.1.2++a)=List.length y.2.2.1.2/\H;AtS s x_1.2.2.2.1/\x_1.2.1<=Q.1/\bW s x_1.2.2.2.1 x_1.2.2.2.2<=(↑x_1.1:Int)/\(↑(wOs x_1.2.2.1.1):Int)<=x_1.2.2.2.1+aB x_1.2.2.2.2 I/\List.length x_1.2.2.1.2=List.length x_1.2.2.1.1/\(x_1.2.2.2.2=false→x_1.2.2.1.2=x_1.2.2.1.1)/\cr s x_1.1 x_1.2.1 x_1.2.2.1.1 x_1.2.2.2.1 x_1.2.2.2.2=cr s J Q.1 [] Q.2.1 !Q.2.2→if X=true then if decide (Q.1 - x_1.2.1<Q.1)=true then (AtS s Y/\List.length s<=(68719476736:Nat))/\(List.length x_1.2.2.1.2=List.length x_1.2.2.1.2/\(List.length x_1.2.2.1.2+List.length [Z.1])*(88:Nat)<=K)/\inR IntKind.i64 (Q.1 - x_1.2.1+L)/\∃(y:Nat × Int × (List Opn × List Opn) × Int × Bool),(AtS s y.2.2.2.1/\y.2.1<=Q.1/\bW s y.2.2.2.1 y.2.2.2.2<=(↑y.1:Int)/\(↑(wOs y.2.2.1.1):Int)<=y.2.2.2.1+aB y.2.2.2.2 I/\List.length y.2.2.1.2=List.length y.2.2.1.1/\(y.2.2.2.2=false→y.2.2.1.2=y.2.2.1.1)/\cr s y.1 y.2.1 y.2.2.1.1 y.2.2.2.1 y.2.2.2.2=cr s J Q.1 [] Q.2.1 !Q.2.2)/\y.1<x_1.1/\Q.1 - x_1.2.1+L=Q.1 - y.2.1/\Z.2.1=pz y.2.2.2.1 y.2.2.2.2/\Z.2.2=!y.2.2.2.2/\R/\S/\E/\F/\G/\true=true/\Q.1=Q.1/\P.1=P.1/\x_1.2.2.1.2++[Z.1]=y.2.2.1.2/\List.length (x_1.2.2.1.2++[Z.1])=List.length y.2.2.1.2/\T/\H else b else b else W else W:=by
 conv=>zeta
 have h0:AtS s 0:=⟨Int.le_refl _,by omega⟩
 obtain ⟨a1,a2,a3,a4,a5⟩:=gQ (b:=false) h0
 have hw:=BA s
 have hd:=BX s
 simp only [wK,BV]
 have fin:∀(l l':List Chnk) (q:Int) (c:Bool),(c=false→l'=l)→(l,q,c)=dB s→if (!!c)=true then True/\(dD s).1=[]/\(310:Int)=(dD s).2/\True else
   kK l'/\if (!decide ((db l').2=(0:Int)))=true then True/\(dD s).1=[]/\(310:Int)=(dD s).2/\True else if (!decide ((db l').1=s))=true then True/\(dD s).1=[]/\(310:Int)=(dD s).2/\True else True/\l'=(dD s).1/\(0:Int)=(dD s).2/\True:=by
  intro l l' q c hc hq
  rw [←hq] at hw hd
  simp only at hw hd
  rw [←hd]
  unfold uS
  cases c with
  | true=>refine a7 (fun _=>?_) (fun z=>absurd rfl z);rw [if_pos rfl];exact ⟨trivial,rfl,rfl,trivial⟩
  | false=>
  have zz:∀{p q:Prop},q→if (!!false)=true then p else q:=fun {p q} h=>h
  refine zz ?_
  rw [if_neg (show ¬(false=true) from fun z=>by cases z)]
  have hc:=hc rfl
  subst hc
  have hw:=hw rfl
  have he:=xX l'
  refine ⟨by unfold kK;omega,a7 (fun n=>?_) (fun n=>?_)⟩
  ·have n:(db l').2≠0:=by simpa using n
   rw [if_pos (.inl n)];exact ⟨trivial,rfl,rfl,trivial⟩
  have n:(db l').2=0:=by simpa using n
  refine a7 (fun r=>?_) (fun r=>?_)
  ·have r:(db l').1≠s:=by simpa using r
   rw [if_pos (.inr r)];exact ⟨trivial,rfl,rfl,trivial⟩
  have r:(db l').1=s:=by simpa using r
  rw [if_neg (fun z=>z.elim (fun z=>z n) (fun z=>z r))]
  exact ⟨trivial,rfl,rfl,trivial⟩
 refine ⟨⟨(s.length+2,(tkN s 0 false).1,([],[]),(tkN s 0 false).2.1,(tkN s 0 false).2.2),⟨a3,Int.le_refl _,fe a3,by have:=a3.1;simp only [wCs,List.map_nil,List.sum_nil];unfold aB;split <;> omega,rfl,fun _=>rfl,rfl⟩,by simp only;omega,by repeat' (first | exact trivial | rfl | apply And.intro)⟩,?_⟩
 rintro ⟨f,n,⟨l,l'⟩,q,c⟩ ⟨i1,i2,i3,i4,il,ic,i5⟩
 simp only at i1 i2 i3 i4 il ic i5 ⊢
 cases f with
 | zero=>have:=dJ (b:=c) i1;omega
 | succ f=>
 unfold chL at i5
 refine a7 (fun t=>?_) (fun t=>?_)
 ·have t:c=false:=by simpa using t
  subst t
  refine a7 (fun r=>?_) (fun r=>?_)
  ·replace r:=Xo r
   have r:0 < n:=by omega
   rw [if_pos ⟨r,rfl⟩] at i5
   have q1:tkN s q false=ch1 s q false:=rfl
   simp only [q1]
   have q2:tkN s (ch1 s q false).2.1 (ch1 s q false).2.2=ch2 s q false:=rfl
   simp only [q2,Bool.not_not]
   obtain ⟨e1,e2,e3⟩:=By (b:=false) i1
   obtain ⟨d1,d2,d3,d4⟩:=Bz (b:=false) i1
   have hs:=da i1 d1 (fun q=>(d3 q).2)
   have k2:(ch2 s q false).1<=9223372036854775807:=by
    unfold ch2 tkN
    split
    ·simp
    ·rename_i z
     simp only
     have:¬(9223372036854775807:Int) < _:=fun y=>z (.inr (.inr y))
     omega
   obtain ⟨z1,z2,z3⟩:=Dm s (ch2 s q false).1 (ch2 s q false).2.1 (ch2 s q false).2.2
   have z0:cr s (s.length+2) (ch2 s q false).1 [] (ch2 s q false).2.1 (ch2 s q false).2.2=ch3 s q false:=rfl
   rw [z0] at z1 z2 z3
   have zA:AtS s (pz (ch2 s q false).2.1 (ch2 s q false).2.2):=by
    unfold pz;split
    ·exact h0
    ·exact e1
   have zP:pz (pz (ch2 s q false).2.1 (ch2 s q false).2.2) (ch2 s q false).2.2=pz (ch2 s q false).2.1 (ch2 s q false).2.2:=by unfold pz;split <;> rfl
   generalize pz (ch2 s q false).2.1 (ch2 s q false).2.2=P0 at *
   generalize (ch2 s q false).2.2=B0 at *
   generalize (ch2 s q false).1=K0 at *
   have wl:=pZ l
   have i6:=i1.2
   simp only [aB,Bool.false_eq_true,if_false] at i4
   have next:∀(ops ops':List Opn) (q':Int) (c':Bool),(c'=false→ops'=ops)→(ops,q',c')=cr s (s.length+2) K0 [] P0 B0→
     (True/\(l'.length+[({args:=(ch1 s q false).1,ops:=ops'}:Chnk)].length) *32<=140737488355328)/\inR IntKind.i64 ((tkN s 0 false).1 - n+1)/\
     ∃y:Nat × Int × (List Chnk × List Chnk) × Int × Bool,(AtS s y.2.2.2.1/\y.2.1<=(tkN s 0 false).1/\bW s y.2.2.2.1 y.2.2.2.2<=y.1/\(wCs y.2.2.1.1:Int)<=y.2.2.2.1+aB y.2.2.2.2 4/\y.2.2.1.2.length=y.2.2.1.1.length/\(y.2.2.2.2=false→y.2.2.1.2=y.2.2.1.1)/\chL s y.1 y.2.1 y.2.2.1.1 y.2.2.2.1 y.2.2.2.2=dB s)/\
      y.1 < f+1/\(tkN s 0 false).1 - n+1=(tkN s 0 false).1 - y.2.1/\l'++[({args:=(ch1 s q false).1,ops:=ops'}:Chnk)]=y.2.2.1.2/\pz q' c'=pz y.2.2.2.1 y.2.2.2.2/\(!c')=(!y.2.2.2.2)/\(l'++[({args:=(ch1 s q false).1,ops:=ops'}:Chnk)]).length=y.2.2.1.2.length:=by
    intro ops ops' q' c' hc hq
    rw [←hq] at z1 z2 z3
    simp only at z1 z2 z3
    refine ⟨⟨trivial,by simp only [List.length_singleton];omega⟩,ag (by omega) (by omega),(f,n - 1,(l++[⟨(ch1 s q false).1,(ch3 s q false).1⟩],l'++[⟨(ch1 s q false).1,ops'⟩]),(ch3 s q false).2.1,(ch3 s q false).2.2),⟨d1,by simp only;omega,by simp only;omega,?_,by simp [il],?_,i5⟩,by simp,by simp only;omega,rfl,z2,by rw [z3],rfl⟩
    ·simp only [tl]
     have ew:wCs [⟨(ch1 s q false).1,(ch3 s q false).1⟩]=wC ⟨(ch1 s q false).1,(ch3 s q false).1⟩:=by simp [wCs]
     rw [ew]
     omega
    ·intro y
     simp only at y ⊢
     rw [ic rfl,hc (by rw [z3];exact y),z1]
   refine ⟨⟨(s.length+2,K0,([],[]),P0,B0),⟨zA,Int.le_refl _,fe zA,by have:=zA.1;simp only [wOs,List.map_nil,List.sum_nil];unfold aB;split <;> omega,rfl,fun _=>rfl,rfl⟩,?_⟩,?_⟩
   ·exact ⟨by simp only;omega,zP.symm,by repeat' (first | exact trivial | rfl | apply And.intro)⟩
   rintro ⟨g,m,⟨ops,ops'⟩,p',c'⟩ ⟨j1,j2,j3,j4,jl,jc,j5⟩
   simp only at j1 j2 j3 j4 jl jc j5 ⊢
   cases g with
   | zero=>have:=dJ (b:=c') j1;omega
   | succ g=>
   unfold cr at j5
   refine a7 (fun v=>?_) (fun v=>?_)
   ·have v:c'=false:=by simpa using v
    subst v
    refine a7 (fun u=>?_) (fun u=>?_)
    ·replace u:=Xo u
     have u:0 < m:=by omega
     rw [if_pos ⟨u,rfl⟩] at j5
     obtain ⟨k1,k2',k3,k4⟩:=Bw (b:=false) j1
     obtain ⟨r1,r2,r3⟩:=Di s p'
     have hs2:=da j1 k1 (fun z=>(k3 z).2)
     have j6:=j1.2
     have wo:=pY ops
     simp only [aB,Bool.false_eq_true,if_false] at j4
     have eP:pz p' false=p':=rfl
     simp only [eP]
     refine ⟨⟨j1,ho⟩,⟨by trivial,by simp only [List.length_singleton];omega⟩,ag (by omega) (by omega),(g,m - 1,(ops++[(opF s p' false).1],ops'++[(gd s p').1]),(opF s p' false).2.1,(opF s p' false).2.2),⟨k1,by simp only;omega,by simp only;omega,?_,by simp [jl],?_,j5⟩,by simp,by simp only;omega,r1,r2,by repeat' (first | exact trivial | rfl | apply And.intro)⟩
     ·simp only [tj]
      have ew:wOs [(opF s p' false).1]=wO (opF s p' false).1:=by simp [wOs]
      rw [ew]
      omega
     ·intro y
      simp only at y ⊢
      rw [jc rfl,r3 y]
    ·replace u:¬K0 - m < K0:=fun z=>u (Xd z)
     rw [if_neg (fun z=>by omega)] at j5
     obtain ⟨n1,n2,y,n3,n4,n5,n6,n7,n8,n9⟩:=next ops ops' p' false jc j5
     exact ⟨n1,n2,y,n3,n4,n5,n6,n7,n8,by repeat' (first | exact trivial | exact n9 | rfl | apply And.intro)⟩
   ·have v:c'=true:=by simpa using v
    rw [if_neg (fun z=>by rw [v] at z;cases z.2)] at j5
    obtain ⟨n1,n2,y,n3,n4,n5,n6,n7,n8,n9⟩:=next ops ops' p' c' jc j5
    exact ⟨n1,n2,y,n3,n4,n5,n6,n7,n8,by repeat' (first | exact trivial | exact n9 | rfl | apply And.intro)⟩
  ·replace r:¬(tkN s 0 false).1 - n < (tkN s 0 false).1:=fun z=>r (Xd z)
   rw [if_neg (fun z=>by omega)] at i5
   exact fin l l' q false ic i5
 ·have t:c=true:=by simpa using t
  rw [if_neg (fun z=>by rw [t] at z;cases z.2)] at i5
  exact fin l l' q c ic i5
theorem zR (a b:List Str) (ha:Wf (.lst .str) a) :
  let A:=(↑(List.length a):Int);let B:=(↑(List.length b):Int);let C:=True/\false=ke a b/\True;let D:=List.length a=List.length b;let E:=(fun (x y:Str)=>decide (x=y));let F:=(0:Int);let G:=a=a/\b=b/\false=false/\True;if (!decide (A=B))=true then C else (∃(x:Nat),(x<=List.length a/\D/\cK E a b=cK E (List.drop x a) (List.drop x b))/\F=(↑x:Int)/\G)/\∀(x:Nat),let H:=(↑x:Int);x<=List.length a/\D/\cK E a b=cK E (List.drop x a) (List.drop x b)→if decide (H<A)=true then (F<=H/\H<A)/\(F<=H/\H<B)/\if (!decide (List.getD a (Int.toNat H) (dfl Ty.str)=List.getD b (Int.toNat H) (dfl Ty.str)))=true then C else inR IntKind.i64 (H+(1:Int))/\∃(y:Nat),(y<=List.length a/\D/\cK E a b=cK E (List.drop y a) (List.drop y b))/\List.length a - y<List.length a - x/\H+(1:Int)=(↑y:Int)/\G else True/\true=ke a b/\True:=by
 conv=>zeta
 have ln:=ha.len
 have dS:dfl Ty.str=([]:Str):=rfl
 simp only [Int.toNat_natCast,dS]
 unfold ke
 refine a7 (fun h=>?_) (fun h=>?_)
 ·have h:¬a.length=b.length:=fun z=>by rw [z] at h;simp at h
  rw [Xf h];exact ⟨trivial,rfl,trivial⟩
 have h:a.length=b.length:=eqN h
 rw [Xd h,Bool.true_and]
 refine ⟨⟨0,⟨Nat.zero_le _,h,rfl⟩,by repeat' (first | exact trivial | rfl | apply And.intro)⟩,?_⟩
 rintro k ⟨k1,_,k2⟩
 rw [k2]
 refine a7 (fun q=>?_) (fun q=>?_)
 ·replace q:=Xo q
  have q:k < a.length:=by omega
  have e:=kG (fun x y:Str=>decide (x=y)) a b k [] q (by omega)
  refine ⟨⟨by omega,by omega⟩,⟨by omega,by omega⟩,a7 (fun m=>?_) (fun m=>?_)⟩
  ·have m:decide (a.getD k []=b.getD k [])=false:=by simpa using m
   rw [e,m];exact ⟨trivial,rfl,trivial⟩
  ·have m:decide (a.getD k []=b.getD k [])=true:=by simpa using m
   exact ⟨ag (by omega) (by omega),k+1,⟨q,h,by rw [e,m];rfl⟩,by omega,by omega,by repeat' (first | exact trivial | rfl | apply And.intro)⟩
 ·replace q:¬(k:Int) < (a.length:Int):=fun z=>q (Xd z)
  rw [List.drop_eq_nil_of_le (show a.length<=k by omega),lX]
  exact ⟨trivial,rfl,trivial⟩
theorem zS (x y:Opn) (hx:Wf (.st .op) x) :
  let A:=True/\false=ff x y/\True;let B:=(↑(List.length x.tos):Int);let C:=(↑(List.length y.tos):Int);let D:=List.length x.tos=List.length y.tos;let E:=(fun (x y:Int)=>decide (x=y));let F:=(0:Int);let G:=x=x/\y=y/\false=false/\x=x/\y=y/\True;let H:=dfl (Ty.int IntKind.i64);if (!decide (x.kind=y.kind))=true then A else if (!decide (x.n=y.n))=true then A else if (!decide (x.name=y.name))=true then A else if (!decide (x.pos=y.pos))=true then A else if (!decide (B=C))=true then A else (∃(x_1:Nat),(x_1<=List.length x.tos/\D/\cK E x.tos y.tos=cK E (List.drop x_1 x.tos) (List.drop x_1 y.tos))/\F=(↑x_1:Int)/\G)/\∀(x_1:Nat),let I:=(↑x_1:Int);x_1<=List.length x.tos/\D/\cK E x.tos y.tos=cK E (List.drop x_1 x.tos) (List.drop x_1 y.tos)→if decide (I<B)=true then (F<=I/\I<B)/\(F<=I/\I<C)/\if (!decide (List.getD x.tos (Int.toNat I) H=List.getD y.tos (Int.toNat I) H))=true then A else inR IntKind.i64 (I+(1:Int))/\∃(y_1:Nat),(y_1<=List.length x.tos/\D/\cK E x.tos y.tos=cK E (List.drop y_1 x.tos) (List.drop y_1 y.tos))/\List.length x.tos - y_1<List.length x.tos - x_1/\I+(1:Int)=(↑y_1:Int)/\G else True/\ke x.names y.names=ff x y/\True:=by
 conv=>zeta
 have ln:=hx.op_tos.len
 have dI:dfl (Ty.int IntKind.i64)=(0:Int):=rfl
 simp only [Int.toNat_natCast,dI]
 unfold ff
 refine a7 (fun h=>?_) (fun h=>?_)
 ·have h:decide (x.kind=y.kind)=false:=by simpa using h
  rw [h];exact ⟨trivial,rfl,trivial⟩
 have h:decide (x.kind=y.kind)=true:=by simpa using h
 refine a7 (fun h2=>?_) (fun h2=>?_)
 ·have h2:decide (x.n=y.n)=false:=by simpa using h2
  rw [h,h2];exact ⟨trivial,rfl,trivial⟩
 have h2:decide (x.n=y.n)=true:=by simpa using h2
 refine a7 (fun h3=>?_) (fun h3=>?_)
 ·have h3:decide (x.name=y.name)=false:=by simpa using h3
  rw [h,h2,h3];exact ⟨trivial,rfl,trivial⟩
 have h3:decide (x.name=y.name)=true:=by simpa using h3
 refine a7 (fun h4=>?_) (fun h4=>?_)
 ·have h4:decide (x.pos=y.pos)=false:=by simpa using h4
  rw [h,h2,h3,h4];exact ⟨trivial,rfl,trivial⟩
 have h4:decide (x.pos=y.pos)=true:=by simpa using h4
 refine a7 (fun h5=>?_) (fun h5=>?_)
 ·have h5:¬x.tos.length=y.tos.length:=fun z=>by rw [z] at h5;simp at h5
  rw [h,h2,h3,h4,Xf h5];exact ⟨trivial,rfl,trivial⟩
 have h5:x.tos.length=y.tos.length:=eqN h5
 rw [h,h2,h3,h4,Xd h5,Bool.true_and,Bool.true_and,Bool.true_and,Bool.true_and,Bool.true_and]
 refine ⟨⟨0,⟨Nat.zero_le _,h5,rfl⟩,by repeat' (first | exact trivial | rfl | apply And.intro)⟩,?_⟩
 rintro k ⟨k1,_,k2⟩
 rw [k2]
 refine a7 (fun q=>?_) (fun q=>?_)
 ·replace q:=Xo q
  have q:k < x.tos.length:=by omega
  have e:=kG (fun x y:Int=>decide (x=y)) x.tos y.tos k 0 q (by omega)
  refine ⟨⟨by omega,by omega⟩,⟨by omega,by omega⟩,a7 (fun m=>?_) (fun m=>?_)⟩
  ·have m:decide (x.tos.getD k 0=y.tos.getD k 0)=false:=by simpa using m
   rw [e,m];exact ⟨trivial,rfl,trivial⟩
  ·have m:decide (x.tos.getD k 0=y.tos.getD k 0)=true:=by simpa using m
   exact ⟨ag (by omega) (by omega),k+1,⟨q,h5,by rw [e,m];rfl⟩,by omega,by omega,by repeat' (first | exact trivial | rfl | apply And.intro)⟩
 ·replace q:¬(k:Int) < (x.tos.length:Int):=fun z=>q (Xd z)
  rw [List.drop_eq_nil_of_le (show x.tos.length<=k by omega),lX,Bool.true_and]
  exact ⟨trivial,rfl,trivial⟩
theorem zT (a b:List Chnk) (ha:Wf (.lst (.st .chunk)) a) :
  let A:=(↑(List.length a):Int);let B:=(↑(List.length b):Int);let C:=True;let D:=C/\false=qn a b/\C;let E:=List.length a=List.length b;let F:=(0:Int);let G:=false=false/\C;let H:=a=a/\b=b/\G;let I:=dfl (Ty.st SN.chunk);let J:=a=a/\b=b/\false=false/\true=true/\G;let K:=dfl (Ty.st SN.op);let L:=(1:Int);if (!decide (A=B))=true then D else (∃(x:Nat),(x<=List.length a/\E/\cK iT a b=cK iT (List.drop x a) (List.drop x b))/\F=(↑x:Int)/\H)/\∀(x:Nat),let M:=(↑x:Int);let N:=F<=M/\M<A;let O:=F<=M/\M<B;let P:=Int.toNat M;let Q:=List.getD a P I;let R:=List.getD b P I;let S:=(↑(List.length Q.ops):Int);let T:=(↑(List.length R.ops):Int);let U:=List.getD a P default;let V:=List.getD b P default;let W:=List.length U.ops=List.length V.ops;x<=List.length a/\E/\cK iT a b=cK iT (List.drop x a) (List.drop x b)→if decide (M<A)=true then N/\O/\if (!decide (Q.args=R.args))=true then D else N/\O/\if (!decide (S=T))=true then D else (∃(x_1:Nat),(x_1<=List.length U.ops/\W/\cK ff U.ops V.ops=cK ff (List.drop x_1 U.ops) (List.drop x_1 V.ops))/\F=(↑x_1:Int)/\M=M/\J)/\∀(x_1:Nat),let X:=(↑x_1:Int);x_1<=List.length U.ops/\W/\cK ff U.ops V.ops=cK ff (List.drop x_1 U.ops) (List.drop x_1 V.ops)→N/\if decide (X<S)=true then N/\(F<=X/\X<S)/\O/\(F<=X/\X<T)/\(C/\C)/\if (!ff (List.getD Q.ops (Int.toNat X) K) (List.getD R.ops (Int.toNat X) K))=true then D else inR IntKind.i64 (X+L)/\∃(y:Nat),(y<=List.length U.ops/\W/\cK ff U.ops V.ops=cK ff (List.drop y U.ops) (List.drop y V.ops))/\List.length U.ops - y<List.length U.ops - x_1/\X+L=(↑y:Int)/\M=M/\J else inR IntKind.i64 (M+L)/\∃(y:Nat),(y<=List.length a/\E/\cK iT a b=cK iT (List.drop y a) (List.drop y b))/\List.length a - y<List.length a - x/\M+L=(↑y:Int)/\H else C/\true=qn a b/\C:=by
 conv=>zeta
 have ln:=ha.len
 have dC:dfl (Ty.st SN.chunk)=(default:Chnk):=rfl
 have dO:dfl (Ty.st SN.op)=(default:Opn):=rfl
 simp only [Int.toNat_natCast,dC,dO]
 unfold qn
 refine a7 (fun h=>?_) (fun h=>?_)
 ·have h:¬a.length=b.length:=fun z=>by rw [z] at h;simp at h
  rw [Xf h];exact ⟨trivial,rfl,trivial⟩
 have h:a.length=b.length:=eqN h
 rw [Xd h,Bool.true_and]
 refine ⟨⟨0,⟨Nat.zero_le _,h,rfl⟩,by repeat' (first | exact trivial | rfl | apply And.intro)⟩,?_⟩
 rintro k ⟨k1,_,k2⟩
 rw [k2]
 refine a7 (fun q=>?_) (fun q=>?_)
 ·replace q:=Xo q
  have q:k < a.length:=by omega
  have e:=kG iT a b k default q (by omega)
  have lo:=(Wf.mem ha (fW a k default q)).chunk_ops.len
  rw [iT] at e
  generalize a.getD k default=A at *
  generalize b.getD k default=B at *
  refine ⟨⟨by omega,by omega⟩,⟨by omega,by omega⟩,a7 (fun m=>?_) (fun m=>?_)⟩
  ·have m:decide (A.args=B.args)=false:=by simpa using m
   rw [e,m];exact ⟨trivial,rfl,trivial⟩
  have m:decide (A.args=B.args)=true:=by simpa using m
  refine ⟨⟨by omega,by omega⟩,⟨by omega,by omega⟩,a7 (fun m2=>?_) (fun m2=>?_)⟩
  ·have m2:¬A.ops.length=B.ops.length:=fun z=>by rw [z] at m2;simp at m2
   rw [e,Xf m2,Bool.and_false];exact ⟨trivial,rfl,trivial⟩
  have m2:A.ops.length=B.ops.length:=eqN m2
  rw [m,Xd m2,Bool.true_and,Bool.true_and] at e
  refine ⟨⟨0,⟨Nat.zero_le _,m2,rfl⟩,by repeat' (first | exact trivial | rfl | apply And.intro)⟩,?_⟩
  rintro j ⟨j1,_,j2⟩
  rw [j2] at e
  refine ⟨⟨by omega,by omega⟩,a7 (fun r=>?_) (fun r=>?_)⟩
  ·replace r:=Xo r
   have r:j < A.ops.length:=by omega
   have e2:=kG ff A.ops B.ops j default r (by omega)
   refine ⟨⟨by omega,by omega⟩,⟨by omega,by omega⟩,⟨by omega,by omega⟩,⟨by omega,by omega⟩,⟨trivial,trivial⟩,a7 (fun v=>?_) (fun v=>?_)⟩
   ·have v:ff (A.ops.getD j default) (B.ops.getD j default)=false:=by simpa using v
    rw [e,e2,v];exact ⟨trivial,rfl,trivial⟩
   ·have v:ff (A.ops.getD j default) (B.ops.getD j default)=true:=by simpa using v
    exact ⟨ag (by omega) (by omega),j+1,⟨r,m2,by rw [j2,e2,v];rfl⟩,by omega,by omega,by repeat' (first | exact trivial | rfl | apply And.intro)⟩
  ·replace r:¬(j:Int) < (A.ops.length:Int):=fun z=>r (Xd z)
   rw [List.drop_eq_nil_of_le (show A.ops.length<=j by omega),lX,Bool.true_and] at e
   exact ⟨ag (by omega) (by omega),k+1,⟨q,h,e⟩,by omega,by omega,by repeat' (first | exact trivial | rfl | apply And.intro)⟩
 ·replace q:¬(k:Int) < (a.length:Int):=fun z=>q (Xd z)
  rw [List.drop_eq_nil_of_le (show a.length<=k by omega),lX]
  exact ⟨trivial,rfl,trivial⟩
theorem mQ (D:Str→List Chnk × Int) (S:List Chnk→List Chnk→Bool) (s:Str) (h1:∀l,S l l=true) :
  let A:=True/\true=true/\True;let B:=List.length s<=(68719476736:Nat);let C:=True/\false=true/\True;if decide ((5000:Int)<(↑(List.length s):Int))=true then A else B/\B/\if S (D s).1 (D s).1=true then if decide ((D s).2=(D s).2)=true then A else C else C:=by
 conv=>zeta
 refine a7 (fun _=>⟨trivial,rfl,trivial⟩) (fun c=>?_)
 have c:¬(5000:Int) < (s.length:Int):=fun z=>c (Xd z)
 exact ⟨by omega,by omega,a7 (fun _=>a7 (fun _=>⟨trivial,rfl,trivial⟩) (fun z=>absurd (Xd rfl) z)) (fun z=>absurd (h1 _) z)⟩
end Go.AL.Seat
end
section
open Go Go.AL Go.Proofs Go.Shelf Go.Pd
namespace Go.AL.Seat
variable [Tabs]
variable [SeatLaid]
theorem qw:an Tryz.prog 174 (p1 (.int .u8) fun c=>.ret (.bool (bT c))):=
 bV (ee Tryz.func174) fun c _ _=>g0 sn a0 Tryz.func174 (zH c)
theorem qx:an Tryz.prog 178 (p1 (.int .u8) fun c=>.ret (.bool (bY c))):=
 bV (ee Tryz.func178) fun c _ _=>g0 sn a0 Tryz.func178 (zI c)
theorem xe:an Tryz.prog 209 (p1 (.int .u8) fun c=>.ret (.bool (fa c))):=
 bV (ee Tryz.func209) fun c _ _=>g0 sn a0 Tryz.func209 (zJ c)
theorem rQ:an Tryz.prog 175 (p1 .str fun s=>.ret (.int .i64 (dh s:Int))):=
 bV (ee Tryz.func175) fun s hs _=>g0 (sc qw (sc qx (sc xe sn))) ⟨[(2,fun S0=>⟨Nat,fun k=>k<=s.length/\dh s=k+dh (s.drop k),fun k=>[(3,.int .i64 k)],fun _=>[],fun k=>s.length - k⟩)],[],[]⟩ Tryz.func175 (Ch s hs)
theorem zU:an Tryz.prog 210 (p2 .str (.lst .str) fun s l=>.ret (.bool (decide (s∈l)))):=
 eF (ee Tryz.func210) fun s l _ hl _=>g0 sn ⟨[(2,fun S0=>⟨Nat,fun k=>k<=l.length/\decide (s∈l)=decide (s∈l.drop k),fun k=>[(5,.int .i64 k)],fun _=>[],fun k=>l.length - k⟩)],[],[]⟩ Tryz.func210 (Ci s l hl)
theorem zW:an Tryz.prog 176 (p1 .str fun s=>.ret (.bool (lS s))):=
 bV (ee Tryz.func176) fun s _ _=>g0 (sc zU sn) a0 Tryz.func176 (Cj s)
theorem rR:an Tryz.prog 133 (p1 .str fun s=>.ret (.bool (bZ s))):=
 bV (ee Tryz.func133) fun s _ _=>g0 (sc qw (sc rQ (sc zW sn))) a0 Tryz.func133 (Ck s)
theorem xf:an Tryz.prog 136 (p1 .str fun s=>.ret (.bool (fb s))):=
 bV (ee Tryz.func136) fun s _ _=>g0 (sc qx (sc rQ sn)) a0 Tryz.func136 (zK s)
theorem xg:an Tryz.prog 138 (p1 (.lst .str) fun l=>.ret (.bool (dq l))):=
 bV (ee Tryz.func138) fun l hl _=>g0 (sc rR sn) ⟨[(2,fun S0=>⟨Nat,fun i=>i<=l.length/\(l.take i).all bZ=true/\(l.take i).Nodup,fun i=>[(3,.int .i64 i)],fun _=>[],fun i=>l.length - i⟩),(7,fun S0=>kO S0 3 fun i0=>⟨Nat,fun j=>j<=i0.toNat/\∀k,k < j→l.getD k []≠l.getD i0.toNat [],fun j=>[(4,.int .i64 j)],fun _=>[],fun j=>i0.toNat - j⟩)],[],[]⟩ Tryz.func138 (zL l hl)
theorem vd:an Tryz.prog 92 (p1 (.st .op) fun o=>.ret (.bool (bL o))):=
 bV (ee Tryz.func92) fun o ho _=>g0 (sc rR (sc xf (sc xg sn))) a0 Tryz.func92 (wY o ho)
theorem xh:an Tryz.prog 93 (p3 (.st .op) (.st .rstt) (.int .i64) fun o s b=>.ret (.tup [.st .rstt (aJ o s b).1,.bool (aJ o s b).2])):=
 DC (ee Tryz.func93) fun o s b _ _ _ _=>g1 nn (fun _=>[]) nn (fun d=>Nat.beq d 37 || Nat.beq d 69 || Nat.beq d 78 || Nat.beq d 88 || Nat.beq d 90 || Nat.beq d 110) nn sn a0 Tryz.func93 (zM o s b)
theorem zX:an Tryz.prog 94 (p2 (.st .op) (.int .i64) fun o i=>.ret (.lst (.int .i64) (aZ o i) none)):=
 eF (ee Tryz.func94) fun o i _ _ _=>g1 nn (fun _=>[]) nn (fun d=>Nat.beq d 17 || Nat.beq d 28) nn sn a0 Tryz.func94 (Cl o i)
theorem xi:an Tryz.prog 63 (Ei):=
 Dp (ee Tryz.func63) fun code k bs n ho=>g1 nn (fun _=>[]) nn (fun d=>Nat.beq d 94) (fun d=>Nat.beq d 64) (sc vd (sc xh (sc zX sn))) ⟨[(5,fun S0=>⟨Nat × List Rstt × List Rstt,fun x=>x.1<=aF code k/\x.2.1.length=aF code k+1/\x.2.2.length=code.length/\kL code k (aF code k) ((cP code k).ops.drop x.1) x.1 x.2.1 x.2.2=cm code k bs,fun x=>[(9,.int .i64 x.1)],fun x=>[(25,.box (.row (.st .rstt) x.2.1)),(900,.box (.row (.st .rstt) x.2.2))],fun x=>aF code k - x.1⟩),(22,fun S0=>BY S0 fun i0 l0 s0 ws=>⟨Nat × List Rstt,fun x=>x.1<=ws.length/\x.2.length=aF code k+1/\cz i0 (aF code k) s0 (ws.drop x.1) x.2=cz i0 (aF code k) s0 ws l0,fun x=>[(15,.int .i64 x.1)],fun x=>[(25,.box (.row (.st .rstt) x.2))],fun x=>ws.length - x.1⟩)],[],[]⟩ Tryz.func63 (zN code k bs n ho)
theorem ve:an Tryz.prog 31 (p2 (.lst (.st .chunk)) (.int .i64) fun l n=>.ret (.int .i64 (iw l n))):=
 eF (ee Tryz.func31) fun l n hl _ _=>g0 (sc xi sn) ⟨[(5,fun S0=>⟨Nat × Nat,fun x=>x.1<=l.length/\bz (l.drop x.1) x.2=bz l 0/\x.2<=4096/\∀c∈l.take x.1,c.ops.length<=4096,fun x=>[(6,.int .i64 x.1),(5,.int .i64 x.2)],fun _=>[],fun x=>l.length - x.1⟩),(15,fun S0=>⟨Nat × List Rstt,fun x=>x.1<=l.length/\x.2.length=l.length/\gT l (l.length - x.1) x.1 x.2=gT l l.length 0 (nJ l.length ⟨true,0,n⟩),fun x=>[(8,.int .i64 x.1)],fun x=>[(73,.box (.row (.st .rstt) x.2))],fun x=>l.length - x.1⟩)],[],[]⟩ Tryz.func31 (wZ l n hl)
theorem ij:an Tryz.prog 64 (p1 (.int .u64) fun n=>.ret (.str (bQ n))):=
 bV (ee Tryz.func64) fun n hn _=>g1 nn (fun _=>[]) nn (fun d=>Nat.beq d 8 || Nat.beq d 15 || Nat.beq d 26) nn sn ⟨[(5,fun S0=>⟨Nat,fun j=>j<=8/\(j=0∨n.toNat / 256 ^ (j - 1)≠0),fun j=>[(0,.int .u64 ((n.toNat / 256 ^ j:Nat):Int)),(3,.str (gR n.toNat j)),(4,.int .i64 (j:Int))],fun _=>[],fun j=>9 - j⟩)],[],[]⟩ Tryz.func64 (xa n hn)
theorem rS:an Tryz.prog 33 (p1 .str fun s=>⟨some (s.length<=140737488355328),none,.str (b7 s),[]⟩):=
 bV (ee Tryz.func33) fun s _ ho=>g0 (sc ij sn) a0 Tryz.func33 (Cm s (ho _ rfl))
theorem Cq:an Tryz.prog 32 (p1 (.int .i64) fun n=>.ret (.str (b6 n))):=
 bV (ee Tryz.func32) fun n _ _=>g1 nn (fun _=>[]) nn (fun d=>Nat.beq d 4) nn (sc ij sn) a0 Tryz.func32 (Du n)
theorem zY:an Tryz.prog 34 (p1 (.lst .str) fun l=>⟨some ((cM l).length<=140737488355328),none,.str (cM l),[]⟩):=
 bV (ee Tryz.func34) fun l hl ho=>g0 (sc ij (sc rS sn)) ⟨[(3,fun S0=>⟨Nat,fun k=>k<=l.length,fun k=>[(4,.int .i64 k),(3,.str (bQ l.length++(l.take k).flatMap b7))],fun k=>[],fun k=>l.length - k⟩)],[],[]⟩ Tryz.func34 (Cn l hl (ho _ rfl))
theorem vg:an Tryz.prog 16 (p1 (.lst (.st .chunk)) fun l=>⟨some (kK l),none,.tup [.str (db l).1,.int .i64 (db l).2],[]⟩):=
 bV (ee Tryz.func16) fun l hl ho=>g0 (sc ve (sc Cq (sc rS (sc zY sn)))) ⟨[(5,fun S0=>⟨Nat,fun k=>k<=l.length,fun k=>[(5,.int .i64 k),(4,.str (prC l k))],fun k=>[],fun k=>l.length - k⟩),(9,fun S0=>kO S0 5 fun k0=>⟨Nat,fun j=>j<=(l.getD k0.toNat default).ops.length,fun j=>[(6,.int .i64 j),(4,.str (prC l k0.toNat++prO (l.getD k0.toNat default) j))],fun _=>[],fun j=>(l.getD k0.toNat default).ops.length - j⟩),(14,fun S0=>kO S0 5 fun k0=>kO S0 6 fun j0=>⟨Nat,fun i=>i<=((l.getD k0.toNat default).ops.getD j0.toNat default).tos.length,fun i=>[(8,.int .i64 i),(4,.str (prC l k0.toNat++prO (l.getD k0.toNat default) j0.toNat++prT ((l.getD k0.toNat default).ops.getD j0.toNat default) i))],fun _=>[],fun i=>((l.getD k0.toNat default).ops.getD j0.toNat default).tos.length - i⟩)],[],[]⟩ Tryz.func16 (xb l hl (ho _ rfl))
theorem mR:an Tryz.prog 68 (p2 .str (.int .i64) fun s p=>.ret (.tup [.int .u64 (aj s p).1,.int .i64 (aj s p).2.1,.int .i64 (aj s p).2.2])):=
 eF (ee Tryz.func68) fun s p hs _ _=>g0 (sc ij sn) ⟨[(13,fun S0=>⟨Nat,fun j=>j<=(s.getD p.toNat 0).toNat - 247,fun j=>[(9,.int .i64 ((j:Int)+1)),(8,.int .u64 ((gp s (p.toNat+1) j:Nat):Int))],fun _=>[],fun j=>(s.getD p.toNat 0).toNat - 247 - j⟩)],[],[]⟩ Tryz.func68 (Co s p hs)
theorem qy:an Tryz.prog 69 (p2 .str (.int .i64) fun s p=>.ret (.tup [.str (aT s p).1,.int .i64 (aT s p).2.1,.int .i64 (aT s p).2.2])):=
 eF (ee Tryz.func69) fun s p hs _ _=>g0 (sc mR sn) a0 Tryz.func69 (zO s p hs)
theorem xj:an Tryz.prog 70 (p2 .str (.int .i64) fun s p=>⟨some (s.length<=1099511627776),none,.tup [.lst .str (bc s p).1 none,.int .i64 (bc s p).2.1,.int .i64 (bc s p).2.2],[]⟩):=
 eF (ee Tryz.func70) fun s p hs _ ho=>g0 (sc mR (sc qy sn)) ⟨[(5,fun S0=>⟨Nat × Int × List Str × Int,fun x=>AtS s x.2.2.2/\(s.length:Int)+1<=x.1+x.2.2.2/\x.2.1+x.2.2.1.length=(aj s p).1/\0<=x.2.1/\(wL x.2.2.1:Int)<=x.2.2.2/\ca s x.1 x.2.1 x.2.2.1 x.2.2.2=bc s p,fun x=>[(9,.lst .str x.2.2.1 (some 701)),(1,.int .i64 x.2.2.2)],fun x=>[(701,.tail .str x.2.2.1.length)],fun x=>x.1⟩)],[],[]⟩ Tryz.func70 (zQ s p hs (ho _ rfl))
theorem rT:an Tryz.prog 37 (p3 .str (.int .i64) .bool fun s p b=>.ret (.tup [.int .i64 (rtk s p b).1,.int .i64 (rtk s p b).2.1,.bool (rtk s p b).2.2])):=
 DC (ee Tryz.func37) fun s p b hs _ _ _=>g0 (sc mR sn) a0 Tryz.func37 (Cp s p b hs)
theorem Dv:an Tryz.prog 38 (p2 .str (.int .i64) fun s p=>⟨some (AtS s p/\s.length<=68719476736),none,.tup [.st .op (gd s p).1,.int .i64 (gd s p).2.1,.bool (gd s p).2.2],[]⟩):=
 eF (ee Tryz.func38) fun s p hs _ ho=>g0 (sc rT (sc qy (sc xj sn))) ⟨[(15,fun S0=>⟨Nat × Int × List Int × Int × Bool,fun x=>AtS s x.2.2.2.1/\x.2.1<=(op5 s p false).1/\bW s x.2.2.2.1 x.2.2.2.2<=x.1/\(x.2.2.1.length:Int)<=x.2.2.2.1+aB x.2.2.2.2 1/\toL s x.1 x.2.1 x.2.2.1 x.2.2.2.1 x.2.2.2.2=op6 s p false,fun x=>[(15,.int .i64 ((op5 s p false).1 - x.2.1)),(1,.int .i64 (pz x.2.2.2.1 x.2.2.2.2)),(9,.bool (!x.2.2.2.2))],fun x=>[(7,.box (.agg [.int .i64 (op1 s p false).1,.int .i64 (op2 s p false).1,.str (op3 s p false).1,.lst .str (op4 s p false).1 none,.lst (.int .i64) x.2.2.1 (some 701),.int .i64 0])),(701,.tail (.int .i64) x.2.2.1.length)],fun x=>x.1⟩)],[],[]⟩ Tryz.func38 (Er s p hs (ho _ rfl))
theorem vh:an Tryz.prog 18 (p1 .str fun s=>⟨some (s.length<=68719476736),none,.tup [.lst (.st .chunk) (dD s).1 none,.int .i64 (dD s).2],[]⟩):=
 bV (ee Tryz.func18) fun s hs ho=>g0 (sc rT (sc Dv (sc vg sn))) ⟨[(4,fun S0=>⟨Nat × Int × (List Chnk × List Chnk) × Int × Bool,fun x=>AtS s x.2.2.2.1/\x.2.1<=(tkN s 0 false).1/\bW s x.2.2.2.1 x.2.2.2.2<=x.1/\(wCs x.2.2.1.1:Int)<=x.2.2.2.1+aB x.2.2.2.2 4/\x.2.2.1.2.length=x.2.2.1.1.length/\(x.2.2.2.2=false→x.2.2.1.2=x.2.2.1.1)/\chL s x.1 x.2.1 x.2.2.1.1 x.2.2.2.1 x.2.2.2.2=dB s,fun x=>[(8,.int .i64 ((tkN s 0 false).1 - x.2.1)),(7,.lst (.st .chunk) x.2.2.1.2 (some 702)),(5,.int .i64 (pz x.2.2.2.1 x.2.2.2.2)),(6,.bool (!x.2.2.2.2))],fun x=>[(702,.tail (.st .chunk) x.2.2.1.2.length)],fun x=>x.1⟩),(11,fun S0=>Dl S0 fun k0 p0 o0 a0=>⟨Nat × Int × (List Opn × List Opn) × Int × Bool,fun x=>AtS s x.2.2.2.1/\x.2.1<=k0/\bW s x.2.2.2.1 x.2.2.2.2<=x.1/\(wOs x.2.2.1.1:Int)<=x.2.2.2.1+aB x.2.2.2.2 3/\x.2.2.1.2.length=x.2.2.1.1.length/\(x.2.2.2.2=false→x.2.2.1.2=x.2.2.1.1)/\cr s x.1 x.2.1 x.2.2.1.1 x.2.2.2.1 x.2.2.2.2=cr s (s.length+2) k0 [] p0 (!o0),fun x=>[(11,.int .i64 (k0 - x.2.1)),(5,.int .i64 (pz x.2.2.2.1 x.2.2.2.2)),(6,.bool (!x.2.2.2.2))],fun x=>[(9,.box (.agg [.int .i64 a0,.lst (.st .op) x.2.2.1.2 (some 701)])),(701,.tail (.st .op) x.2.2.1.2.length)],fun x=>x.1⟩)],[],[]⟩ Tryz.func18 (xc s hs (ho _ rfl))
theorem xk:an Tryz.prog 59 (p2 (.lst .str) (.lst .str) fun a b=>.ret (.bool (ke a b))):=
 eF (ee Tryz.func59) fun a b ha _ _=>g0 sn ⟨[(4,fun S0=>⟨Nat,fun k=>k<=a.length/\a.length=b.length/\cK (fun x y=>decide (x=y)) a b=cK (fun x y=>decide (x=y)) (List.drop k a) (List.drop k b),fun k=>[(5,.int .i64 k)],fun _=>[],fun k=>a.length - k⟩)],[],[]⟩ Tryz.func59 (zR a b ha)
theorem xl:an Tryz.prog 26 (p2 (.st .op) (.st .op) fun x y=>.ret (.bool (ff x y))):=
 eF (ee Tryz.func26) fun x y hx _ _=>g0 (sc xk sn) ⟨[(4,fun S0=>⟨Nat,fun k=>k<=x.tos.length/\x.tos.length=y.tos.length/\cK (fun x y=>decide (x=y)) x.tos y.tos=cK (fun x y=>decide (x=y)) (List.drop k x.tos) (List.drop k y.tos),fun k=>[(5,.int .i64 k)],fun _=>[],fun k=>x.tos.length - k⟩)],[],[]⟩ Tryz.func26 (zS x y hx)
theorem xm:an Tryz.prog 13 (p2 (.lst (.st .chunk)) (.lst (.st .chunk)) fun a b=>.ret (.bool (qn a b))):=
 eF (ee Tryz.func13) fun a b ha _ _=>g1 nn (fun _=>[]) nn nn (fun d=>Nat.beq d 70) (sc xl sn) ⟨[(4,fun S0=>⟨Nat,fun k=>k<=a.length/\a.length=b.length/\cK iT a b=cK iT (List.drop k a) (List.drop k b),fun k=>[(5,.int .i64 k)],fun _=>[],fun k=>a.length - k⟩),(9,fun S0=>kO S0 5 fun k0=>⟨Nat,fun j=>j<=(a.getD k0.toNat default).ops.length/\(a.getD k0.toNat default).ops.length=(b.getD k0.toNat default).ops.length/\cK ff (a.getD k0.toNat default).ops (b.getD k0.toNat default).ops=cK ff (List.drop j (a.getD k0.toNat default).ops) (List.drop j (b.getD k0.toNat default).ops),fun j=>[(6,.int .i64 j)],fun _=>[],fun j=>(a.getD k0.toNat default).ops.length - j⟩)],[],[]⟩ Tryz.func13 (zT a b ha)
theorem kM (D:Str→List Chnk × Int) (S:List Chnk→List Chnk→Bool) (s:Str) (h1:∀l,S l l=true) (hD:an Tryz.prog 17 (p1 .str fun s=>⟨some (s.length<=68719476736),none,.tup [.lst (.st .chunk) (D s).1 none,.int .i64 (D s).2],[]⟩)) (hR:an Tryz.prog 18 (p1 .str fun s=>⟨some (s.length<=68719476736),none,.tup [.lst (.st .chunk) (D s).1 none,.int .i64 (D s).2],[]⟩)) (hS:an Tryz.prog 13 (p2 (.lst (.st .chunk)) (.lst (.st .chunk)) fun a b=>.ret (.bool (S a b)))) (hW:an Tryz.prog 10 (p0 (.ret (.bool true)))):bd Tryz.prog 5 [.str s] [] (.ret (.bool true)):=
 g0 (sc (hW) (sc (hD) (sc (hR) (sc (hS) sn)))) a0 Tryz.func5 (mQ D S s h1)
end Go.AL.Seat
end
section
namespace Go.Proofs.YtldkmcedeenlnaaGreatDoor.JCodeDecodes
open Go.AL Go.AL.Seat Go.Pd Go.ChangeShapes Go.WideShapes Go.RowKit Go.Proofs.YtldkmcedeenlnaaGreatDoor.Join
set_option maxRecDepth 1000000
theorem par:Tryz.f5.params=#[9]:=by kernel_rfl
theorem res:Tryz.f5.resultTypes=#[4]:=by kernel_rfl
theorem spec {H:Type} (ds:List (DataW H)) (hd:ds.length=1):Rows.codeDecodesSpec.fn H ds={results:=[.lit (.bool true)],args:=ds}:=by
 match ds,hd with
 | [d0],_=>rfl
theorem Cr (H:Type) (enc:TypeId × Value→H) (W:World) (base:Nat) (args:Array Value) (ds gs:List (DataW H)) (before:List MemPlace)
  (hval:∀(j:Nat) t v,Tryz.f5.params[j]?=some t→args[j]?=some v→Value.okWide Tryz.prog W .any base t v)
  (hW:DataW.Whole enc Tryz.prog Tryz.f5.params.toList Rows.codeDecodesSpec.vars false W args.toList ds gs before) (hL:laidMet Tryz.prog laid W) (hsh:W.ShapedOpen Tryz.prog) :
  Calls Tryz.prog 5 args W fun e W'=>∃v,e=.returned v/\Rows.codeDecodesSpec.post enc Tryz.prog Tryz.f5 false true false false W args v W':=by
 letI:Tabs:=pI W
 haveI:SeatLaid:=Bf hL hsh
 have hW':=hW
 obtain ⟨p,q,hA,hV,_,_,_⟩:=hW
 rw [par] at hA hval
 obtain ⟨v0,vs0,d0,ds0,p0,q0,hargs0,rfl,rfl,h0,r0⟩:=trodAll_cons hA
 obtain ⟨rfl,rfl,rfl⟩:=trodAll_nil r0
 obtain rfl:args=#[v0]:=by
  have:=congrArg List.toArray hargs0
  simpa using this
 obtain ⟨x0,hx0⟩:=AQ undS (hval 0 9 v0 rfl rfl) h0
 refine (yS (kM dD qn x0 wQ nB vh xm vc) (fun b o v h=>h.2) (fun b x h=>h.2) (VL.cons hx0 .nil)).mono fun e W' ⟨he,hb⟩=>?_
 subst he
 refine ⟨_,rfl,AP (tb:=4) CU (fun t ht=>?_) rfl (fun ds hd=>spec ds ?_) res undB hW' hb⟩
 ·rw [par] at ht
  have ht:t∈[9]:=ht
  simp only [List.mem_cons,List.not_mem_nil,or_false] at ht
  rcases ht with rfl
  ·exact ⟨Ey,Nat.lt_trans (by decide) Ez⟩
 ·rw [par] at hd
  exact hd
theorem reads (os:Os) {H:Type} (enc:TypeId × Value→H):(DataW.whole enc Tryz.prog ((kB os).forCall (fun _ _=>0) ⟨#[],#[.string ⟨#[]⟩],[]⟩).memory Tryz.f5.params.toList Rows.codeDecodesSpec.vars false [Value.string ⟨#[]⟩] 8).map (fun x=>(x.1,x.2.1))=some ([.lit (.string [])],[]):=by kernel_rfl
theorem Es (os:Os) (started:os.Started) (H:Type) (enc:TypeId × Value→H) (F:Stop.Interp) :
  ReturnsInHanded {} Tryz.checked os 5 .any ((OpenSpec.ofChange Rows.codeDecodesSpec).preRow enc Tryz.prog Tryz.f5 Rows.codeDecodesRow.domain false Rows.codeDecodesRow.laid) (((OpenSpec.ofChange Rows.codeDecodesSpec).at F).post enc Tryz.prog Tryz.f5 false true false false):=by
 obtain ⟨⟨y1,y2,y3⟩,hx,hy⟩:=Option.map_eq_some_iff.1 (reads os enc)
 simp only [Prod.mk.injEq] at hy
 obtain ⟨rfl,rfl⟩:=hy
 refine returnsInHanded_of_row (C:=Tryz.checked) (s:=OpenSpec.ofChange Rows.codeDecodesSpec) own started (by kernel_rfl) Tryz.func5
  (witness_row_atRef (enc:=enc) (C:=Tryz.checked) false (kB os) #[.string ⟨#[]⟩] rfl (by kernel_rfl) (by kernel_rfl) (by kernel_rfl)
   (OpenSpec.preRow_of_cond 8 hx (by kernel_rfl) (fun k hk=>by cases hk) (by kernel_rfl) (Bg os _))) ?_
 intro W base args ds gs before hval hW _ _ _ hL hsh _
 exact Cr H enc W base args ds gs before hval hW hL hsh
theorem c1:(Rows.codeDecodesRow.inPlace ==Tryz.prog.inPlace 5)=true:=by kernel_rfl
theorem c2:(Rows.codeDecodesRow.unfollowed ==Tryz.prog.unfollowed 5)=true:=by kernel_rfl
theorem c3:(Rows.codeDecodesRow.recurses ==Tryz.prog.recurses 5)=true:=by kernel_rfl
theorem c4:(Rows.codeDecodesRow.named ==Tryz.prog.varsNamed 5)=true:=by kernel_rfl
theorem Et:joinedFacts Tryz.prog 5 Tryz.f5 (OpenSpec.ofChange Rows.codeDecodesSpec).bare Rows.codeDecodesRow=true:=by
 unfold joinedFacts
 rw [c1,c2,c3,c4]
 kernel_rfl
theorem said:Rows.CodeDecodesSaid:=
 OpenClaim.holds_of_cond 5 Tryz.f5 rfl rfl rfl rfl rfl rfl rfl ⟨rfl,rfl,rfl,rfl,rfl⟩ rfl rfl rfl rfl rfl (by kernel_rfl) Tryz.func5 Et
  (Xo (by kernel_rfl)) (by unfold Func.isWrapper;first | (rw [if_pos (by decide+kernel)];kernel_rfl) | (rw [if_neg (by decide+kernel)];exact ⟨rfl,rfl⟩))
  (fun os started H enc _ F=>by rw [OpenClaim.pre_eq_preRow];exact Es os started H enc F)
theorem di (f:FuncId) (fn:Func) (hf:Tryz.pinned.checked.prog.funcNamed "pandect/pandectlaw31.CodeDecodes"=some f) (hfn:Tryz.pinned.checked.prog.funcs[f]?=some fn) :
  true=Tryz.pinned.checked.prog.looks []/\∀(j:Nat) t,fn.params[j]?=some t→Tryz.pinned.checked.prog.wantsStandIn t=false:=by
 obtain rfl:f=5:=Option.some.inj ((show Tryz.prog.funcNamed "pandect/pandectlaw31.CodeDecodes"=some 5 by kernel_rfl).symm.trans hf) |>.symm
 obtain rfl:fn=Tryz.f5:=(Option.some.inj (Tryz.func5.symm.trans hfn)).symm
 refine ⟨by kernel_rfl,fun j t ht=>?_⟩
 rw [par] at ht
 have ht:=Array.mem_of_getElem? ht
 simp only [List.mem_toArray,List.mem_cons,List.not_mem_nil,or_false] at ht
 rcases ht with rfl
 ·exact (show Tryz.prog.wantsStandIn 9=false by kernel_rfl)
theorem card:Rows.CodeDecodesCardSaid:=
 Claim7.holds_tied_plain_at .later [] _ _ _ _ said (fun _ h=>by cases h) (by kernel_rfl) (fun _ h=>by cases h) codeDecodes_row_tie rfl ⟨rfl,rfl⟩ (by kernel_rfl) rfl di (by kernel_rfl)
end Go.Proofs.YtldkmcedeenlnaaGreatDoor.JCodeDecodes
end
