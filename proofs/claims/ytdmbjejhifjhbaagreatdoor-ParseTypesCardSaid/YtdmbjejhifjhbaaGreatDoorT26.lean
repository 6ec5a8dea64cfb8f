/- The contracts of the functions. Plain facts. What the functions' conditions say, proved. No condition. -/
import Derived.Test.YtdmbjejhifjhbaaGreatDoorT25
set_option linter.unusedVariables false
set_option linter.unusedSimpArgs false
set_option linter.unnecessarySimpa false
set_option linter.deprecated false
set_option linter.unusedSectionVars false
set_option maxRecDepth 100000
section
open Go Go.AL Go.Proofs Go.Shelf Go.Pd
namespace Go.AL.Seat
open Go.Proofs.Tryz
variable [Tabs]
variable [SeatLaid]
theorem BA:ar prog 112:=ee func112
theorem AB (n:Nat) (s:AL.Shape) (m:Int) (hs:Wf (.st .shape) s) (ho:sz s<=n+1/\0<=m/\m<=1000000) (hA:ac prog 112 (p2 (.st .shape) (.int .i64) fun s m=>⟨some (sz s<=n/\0<=m/\m<=1000000),none,.int .i64 (sizeF s m),[]⟩)):aq prog 112 [.st .shape s,.int .i64 m] [] (.ret (.int .i64 (sizeF s m))):=
 g0 (sc (hA) sn) ⟨[(3,fun S0=>⟨Nat × Int,fun x=>x.1<=s.parts.length/\1<=x.2/\x.2<=m+1/\sizeL (s.parts.drop x.1) x.2 m=sizeF s m,fun x=>[(5,.int .i64 x.2),(6,.int .i64 x.1)],fun _=>[],fun x=>s.parts.length - x.1⟩)],[],[]⟩ func112 (I7 n s m hs ho)
theorem GF:∀n:Nat,ac prog 112 (p2 (.st .shape) (.int .i64) fun s m=>⟨some (sz s<=n/\0<=m/\m<=1000000),none,.int .i64 (sizeF s m),[]⟩):=by
 intro n
 induction n with
 | zero=>exact dN BA fun a m _ _ ho=>absurd (ho _ rfl).1 (by have:=jl a;omega)
 | succ n ih=>exact dN BA fun a m ha _ ho=>AB n a m ha (ho _ rfl) ih
theorem mQ:ac prog 139 (p1 (.int .u8) fun c=>.ret (.bool (bJ c))):=
 b6 (ee func139) fun c _ _=>g0 sn a0 func139 (DB c)
theorem mR:ac prog 140 (p1 (.int .u8) fun c=>.ret (.bool (bP c))):=
 b6 (ee func140) fun c _ _=>g0 sn a0 func140 (DC c)
theorem mS:ac prog 145 (p1 (.int .u8) fun c=>.ret (.bool (aM c))):=
 b6 (ee func145) fun c _ _=>g0 sn a0 func145 (DD c)
theorem oF:ac prog 141 (p1 .str fun s=>.ret (.int .i64 (cl s:Int))):=
 b6 (ee func141) fun s hs _=>g0 (sc mQ (sc mR (sc mS sn))) ⟨[(2,fun S0=>⟨Nat,fun k=>k<=s.length/\cl s=k+cl (s.drop k),fun k=>[(3,.int .i64 k)],fun _=>[],fun k=>s.length - k⟩)],[],[]⟩ func141 (Gp s hs)
theorem tI:ac prog 198 (p2 .str (.lst .str) fun s l=>.ret (.bool (decide (s∈l)))):=
 dN (ee func198) fun s l _ hl _=>g0 sn ⟨[(2,fun S0=>⟨Nat,fun k=>k<=l.length/\decide (s∈l)=decide (s∈l.drop k),fun k=>[(5,.int .i64 k)],fun _=>[],fun k=>l.length - k⟩)],[],[]⟩ func198 (Gq s l hl)
theorem tJ:ac prog 142 (p1 .str fun s=>.ret (.bool (j9 s))):=
 b6 (ee func142) fun s _ _=>g0 (sc tI sn) a0 func142 (Gr s)
theorem oG:ac prog 143 (p1 .str fun s=>.ret (.bool (aU s))):=
 b6 (ee func143) fun s _ _=>g0 (sc mQ (sc oF (sc tJ sn))) a0 func143 (Gs s)
theorem rY:ac prog 144 (p1 .str fun s=>.ret (.bool (cZ s))):=
 b6 (ee func144) fun s _ _=>g0 (sc mR (sc oF sn)) a0 func144 (DE s)
theorem AC:ac prog 206 (p2 (.lst .str) (.int .i64) fun ns n=>.ret (.bool (gK ns n))):=
 dN (ee func206) fun ns n hl _ _=>g0 (sc oG sn) ⟨[(2,fun S0=>⟨Nat,fun k=>k<=ns.length/\(ns.take k).all aU=true/\(ns.take k).Nodup,fun k=>[(5,.int .i64 k)],fun _=>[],fun k=>ns.length - k⟩),(7,fun S0=>Ij S0 5 fun k0=>⟨Nat,fun j=>(j:Int)<=k0/\(ns.getD k0.toNat (dfl .str))∉ns.take j,fun j=>[(6,.int .i64 j)],fun _=>[],fun j=>k0.toNat - j⟩)],[],[]⟩ func206 (DF ns n hl)
theorem DN:ac prog 162 (p1 (.st .shape) fun s=>.ret (.bool (bw s))):=
 b6 (ee func162) fun s hs _=>g0 (sc AC (sc rY (sc oG sn))) a0 func162 (Gt s hs)
theorem xX:ar prog 114:=ee func114
theorem xY (n:Nat) (s:AL.Shape) (hs:Wf (.st .shape) s) (hn:sz s<=n+1) (hA:ac prog 114 (p1 (.st .shape) fun s=>⟨some (sz s<=n),none,.bool (allS bw s),[]⟩)):aq prog 114 [.st .shape s] [] (.ret (.bool (allS bw s))):=
 g0 (sc DN (sc (hA) sn)) ⟨[(4,fun S0=>⟨Nat,fun k=>k<=s.parts.length/\allS bw s=allL bw (s.parts.drop k),fun k=>[(3,.int .i64 k)],fun _=>[],fun k=>s.parts.length - k⟩)],[],[]⟩ func114 (Gu n s hs hn)
theorem DO:∀n:Nat,ac prog 114 (p1 (.st .shape) fun s=>⟨some (sz s<=n),none,.bool (allS bw s),[]⟩):=by
 intro n
 induction n with
 | zero=>exact b6 xX fun a _ ho=>absurd (ho _ rfl) (by have:=jl a;omega)
 | succ n ih=>exact b6 xX fun a hs ho=>xY n a hs (ho _ rfl) ih
theorem BB:ar prog 113:=ee func113
theorem AD (n:Nat) (s:AL.Shape) (hs:Wf (.st .shape) s) (hn:sz s<=n+1) (hb:n<=1000000) (hA:ac prog 113 (p1 (.st .shape) fun s=>⟨some (sz s<=n),none,.int .i64 (deepF s:Int),[]⟩)):aq prog 113 [.st .shape s] [] (.ret (.int .i64 (deepF s:Int))):=
 g0 (sc (hA) sn) ⟨[(3,fun S0=>⟨Nat × Int,fun x=>x.1<=s.parts.length/\0<=x.2/\max x.2 (maxDeep (s.parts.drop x.1):Int)=maxDeep s.parts,fun x=>[(3,.int .i64 x.2),(4,.int .i64 x.1)],fun _=>[],fun x=>s.parts.length - x.1⟩)],[],[]⟩ func113 (I8 n s hs hn hb)
theorem GH:∀n:Nat,n<=1000000→ac prog 113 (p1 (.st .shape) fun s=>⟨some (sz s<=n),none,.int .i64 (deepF s:Int),[]⟩):=by
 intro n
 induction n with
 | zero=>exact fun _=>b6 BB fun a _ ho=>absurd (ho _ rfl) (by have:=jl a;omega)
 | succ n ih=>exact fun hb=>b6 BB fun a hs ho=>AD n a hs (ho _ rfl) (by omega) (ih (by omega))
theorem AE:ac prog 55 (p1 (.st .shape) fun s=>.ret (.int .i64 (bK s))):=
 b6 (ee func55) fun s hs _=>g0 (sc (GF (sz s)) (sc (GH 400 (by decide)) (sc (DO 400) sn))) a0 func55 (DG s hs)
theorem tK:ar prog 14:=ee func14
theorem vz (n:Nat) (a b:Shape) (ha:Wf (.st .shape) a) (hb:Wf (.st .shape) b) (hn:sz a<=n+1) (hA:ac prog 14 (p2 (.st .shape) (.st .shape) fun a b=>⟨some (sz a<=n),none,.bool (eqS a b),[]⟩)):aq prog 14 [.st .shape a,.st .shape b] [] (.ret (.bool (eqS a b))):=
 g0 (sc (hA) sn) ⟨[(4,fun S0=>⟨Nat,fun k=>k<=a.names.length/\a.names.length=b.names.length/\a.parts.length=b.parts.length/\eqS a b=(decide (a.names.drop k=b.names.drop k) && eqL a.parts b.parts),fun k=>[(5,.int .i64 k)],fun _=>[],fun k=>a.names.length - k⟩),(9,fun S0=>⟨Nat,fun k=>k<=a.parts.length/\a.parts.length=b.parts.length/\eqS a b=eqL (a.parts.drop k) (b.parts.drop k),fun k=>[(6,.int .i64 k)],fun _=>[],fun k=>a.parts.length - k⟩)],[],[]⟩ func14 (DH n a b ha hb hn)
theorem AF:∀n:Nat,ac prog 14 (p2 (.st .shape) (.st .shape) fun a b=>⟨some (sz a<=n),none,.bool (eqS a b),[]⟩):=by
 intro n
 induction n with
 | zero=>exact dN tK fun a b _ _ ho=>absurd (ho _ rfl) (by have:=jl a;omega)
 | succ n ih=>exact dN tK fun a b ha hb ho=>vz n a b ha hb (ho _ rfl) ih
theorem vA:ac prog 270 (p1 .str fun s=>.ret (.bool (bO s))):=
 b6 (ee func270) fun s hs _=>g0 sn ⟨[(2,fun S0=>⟨Nat,fun k=>k<=s.length/\(s.all fun c=>aM (bI c))=(s.drop k).all fun c=>aM (bI c),fun k=>[(3,.int .i64 k)],fun _=>[],fun k=>s.length - k⟩)],[],[]⟩ func270 (xU s hs)
theorem AG:ac prog 252 (p1 .str fun s=>.ret (.bool (df s))):=
 b6 (ee func252) fun s hs _=>g0 (sc vA sn) ⟨[(2,fun S0=>⟨Nat,fun k=>k<=s.length/\(s.all fun c=>gW (bI c))=(s.drop k).all fun c=>gW (bI c),fun k=>[(3,.int .i64 k)],fun _=>[],fun k=>s.length - k⟩)],[],[]⟩ func252 (DI s hs)
theorem vB:ac prog 227 (p1 (.int .i64) fun n=>⟨some (0<=n/\n<=999999),none,.str (bU n),[]⟩):=
 b6 (ee func227) fun n _ ho=>g0 sn ⟨[(3,fun S0=>⟨Nat × Nat × Str,fun y=>y.1<=20/\y.2.1 < 10 ^ y.1/\y.2.1<=999999/\y.2.2.length<=21 - y.1/\bU n=nG y.1 y.2.1 y.2.2,fun y=>[(0,.int .i64 y.2.1),(4,.str y.2.2)],fun _=>[],fun y=>y.1⟩)],[],[]⟩ func227 (xV n (ho _ rfl))
theorem xZ:ac prog 226 (p1 (.st .version) fun v=>.ret (.int .i64 (bv v))):=
 b6 (ee func226) fun v hv _=>g0 (sc (Ap) (sc AG sn)) ⟨[(7,fun S0=>⟨Nat,fun k=>k<=(splitB 46 v.pre).length/\(splitB 46 v.pre).all df=((splitB 46 v.pre).drop k).all df,fun k=>[(4,.int .i64 k)],fun _=>[],fun k=>(splitB 46 v.pre).length - k⟩)],[],[]⟩ func226 (At v hv)
theorem AH:ac prog 199 (p1 (.st .version) fun v=>.ret (.tup [.str (cz v).1,.int .i64 (cz v).2])):=
 b6 (ee func199) fun v hv _=>g0 (sc xZ (sc vB sn)) a0 func199 (DJ v hv)
theorem y4:ac prog 146 (p1 .str fun s=>⟨some (s.length<=4096),none,.tup [.st .version (bY s).1,.int .i64 (bY s).2],[]⟩):=
 b6 (ee func146) fun s _ ho=>g1 nn (fun _=>[]) nn (fun d=>Nat.beq d 14) nn (sc AH sn) ⟨[(6,fun S0=>⟨Nat × Nat × Nat × List Int,fun y=>y.2.1<=s.length/\s.length < y.2.1+y.1/\y.2.2.1<=2/\y.2.2.2.length=3/\(∀k,k < 3→0<=y.2.2.2.getD k 0/\y.2.2.2.getD k 0<=99999999)/\gL s=kq s (rvL s y.1 y.2.1 y.2.2.1 y.2.2.2),fun y=>[(6,.int .i64 y.2.1),(5,.int .i64 y.2.2.1)],fun y=>[(14,.box (.row (.int .i64) y.2.2.2))],fun y=>y.1⟩)],[],[]⟩ func146 (Au s (ho _ rfl))
theorem DP:ac prog 196 (p1 (.int .i64) fun p=>.ret (.bool (eT p))):=
 b6 (ee func196) fun p _ _=>g0 sn a0 func196 (Gv p)
theorem DQ:ac prog 197 (p1 (.int .i64) fun p=>⟨some (0<=p/\p<=1114111),none,.str (dD p),[]⟩):=
 b6 (ee func197) fun p _ ho=>g0 sn a0 func197 (Gw p (ho _ rfl))
theorem tL:ac prog 138 (p1 .str fun s=>.ret (.tup [.int .i64 (fW s).1,.int .i64 (fW s).2])):=
 b6 (ee func138) fun s hs _=>g0 (sc DP (sc DQ sn)) ⟨[(16,fun S0=>⟨Nat,fun k=>1<=k/\k<=cI s/\(k=1→-300<=bE s k/\bE s k<=300)/\(k=2→-20000<=bE s k/\bE s k<=20000)/\(k=3→-1300000<=bE s k/\bE s k<=1300000)/\(k=4→-90000000<=bE s k/\bE s k<=90000000),fun k=>[(6,.int .i64 k),(5,.int .i64 (bE s k))],fun _=>[],fun k=>cI s - k⟩)],[],[(100013,fun S0=>⟨[(4,.int .i64 (cI s:Int)),(5,.int .i64 (gi s))],[]⟩)]⟩ func138 (Gx s hs)
theorem y5:ac prog 85 (p1 .str fun s=>⟨some (s.length<=4096),none,.tup [.int .i64 (bd s).1,.st .fault (bd s).2],[]⟩):=
 b6 (ee func85) fun s _ ho=>g0 (sc tL sn) ⟨[(2,fun S0=>⟨Nat,fun k=>k<=s.length/\ae aH s 0=k+ae aH s (k:Int),fun k=>[(4,.int .i64 k)],fun _=>[],fun k=>s.length - k⟩),(6,fun S0=>⟨Nat × Nat,fun y=>y.1<=s.length/\s.length < y.1+y.2/\bd s=ki s y.2 y.1,fun y=>[(4,.int .i64 y.1)],fun _=>[],fun y=>y.2⟩)],[],[(4,fun S0=>⟨[(54,.bool (decide (s.length<=ae aH s 0+1∨bI (s.getD (ae aH s 0) 0)≠45∨bI (s.getD (ae aH s 0+1) 0)≠45))),(4,.int .i64 (ae aH s 0:Int))],[]⟩)]⟩ func85 (Av s (ho _ rfl))
theorem y6:ac prog 147 (p1 .str fun s=>.ret (.bool (mw s))):=
 b6 (ee func147) fun s hs _=>g0 (sc mS sn) ⟨[(2,fun S0=>⟨Nat,fun k=>k<=s.length/\s.all cx=(s.drop k).all cx,fun k=>[(3,.int .i64 k)],fun _=>[],fun k=>s.length - k⟩)],[],[]⟩ func147 (Aw s hs)
theorem DR:ac prog 149 (p1 .str fun s=>.ret (.bool (fS s))):=
 b6 (ee func149) fun s _ _=>g0 (sc tI sn) a0 func149 (Gy s)
theorem y7:ac prog 148 (p1 .str fun s=>⟨some (s.length<=4096/\0 < s.length),none,.tup [.st .token (dh s).1,.int .i64 (dh s).2.1,.st .fault (dh s).2.2],[]⟩):=
 b6 (ee func148) fun s _ ho=>g0 (sc tL sn) ⟨[(4,fun S0=>⟨Nat × Str × Nat,fun y=>y.2.2<=s.length/\y.2.1.length<=y.2.2/\s.length < y.2.2+y.1/\dh s=bC s y.1 y.2.1 y.2.2,fun y=>[(6,.lst (.int .u8) (aJ y.2.1) (some 701)),(7,.int .i64 y.2.2)],fun y=>[(701,.tail (.int .u8) (aJ y.2.1).length)],fun y=>y.1⟩)],[],[]⟩ func148 (Ax s (ho _ rfl))
theorem AI:ac prog 86 (p1 .str fun s=>⟨some (s.length<=4096/\0 < s.length),none,.tup [.st .token (bV s).1,.int .i64 (bV s).2.1,.st .fault (bV s).2.2],[]⟩):=
 b6 (ee func86) fun s _ ho=>g0 (sc mQ (sc mR (sc mS (sc oF (sc tJ (sc oG (sc rY (sc y4 (sc y6 (sc y7 (sc DR sn))))))))))) ⟨[(15,fun S0=>⟨Nat,fun k=>k<=s.length/\ae aF s 0=k+ae aF s (k:Int),fun k=>[(9,.int .i64 k)],fun _=>[],fun k=>s.length - k⟩)],[],[]⟩ func86 (DK s (ho _ rfl))
theorem DS:ac prog 43 (p1 .str fun s=>.ret (.tup [.lst (.st .token) (fY s).1 none,.st .fault (fY s).2])):=
 b6 (ee func43) fun s hs _=>g0 (sc y5 (sc AI sn)) ⟨[(5,fun S0=>⟨Nat × Nat × List Tokn,fun y=>y.2.1<=s.length/\y.2.2.length<=y.2.1/\s.length < y.2.1+y.1/\fY s=fX s y.1 y.2.1 y.2.2,fun y=>[(5,.int .i64 y.2.1),(4,.lst (.st .token) y.2.2 (some 701))],fun y=>[(701,.tail (.st .token) y.2.2.length)],fun y=>y.1⟩)],[],[]⟩ func43 (Gz s hs)
theorem iI:ac prog 39 (p2 (.lst (.st .token)) (.int .i64) fun l a=>⟨some (0<=a),none,.st .token (bB l a),[]⟩):=
 dN (ee func39) fun l a hl _ ho=>g0 sn a0 func39 (GA l a hl (ho _ rfl))
theorem m9:ac prog 68 (p3 (.lst (.st .token)) (.int .i64) .str fun l a t=>⟨some (0<=a),none,.bool (cb l a t),[]⟩):=
 Bd (ee func68) fun l a t _ _ _ ho=>g0 (sc iI sn) a0 func68 (GB l a t (ho _ rfl))
theorem oH:ac prog 87 (p2 (.lst (.st .token)) (.int .i64) fun l a=>⟨some (0<=a),none,.st .fault (jh l a),[]⟩):=
 dN (ee func87) fun l a _ _ ho=>g0 (sc iI sn) a0 func87 (GC l a (ho _ rfl))
theorem oI:ac prog 73 (p3 (.lst (.st .token)) (.int .i64) .str fun l a t=>⟨some (0<=a),none,.tup [.int .i64 (aE l a t).1,.st .fault (aE l a t).2],[]⟩):=
 Bd (ee func73) fun l a t hl _ _ ho=>g0 (sc m9 (sc oH sn)) a0 func73 (GD l a t hl (ho _ rfl))
theorem tM:ac prog 70 (p3 (.lst (.st .token)) (.int .i64) (.int .i64) fun l a k=>⟨some (0<=a/\¬k=0),none,.tup [.str (bQ l a k).1,.int .i64 (bQ l a k).2.1,.st .fault (bQ l a k).2.2],[]⟩):=
 Bd (ee func70) fun l a k hl _ _ ho=>g0 (sc iI (sc oH sn)) a0 func70 (GE l a k hl (ho _ rfl))
theorem AJ:ac prog 120 (p3 (.lst (.st .token)) (.int .i64) (.lst .str) fun l a ns=>⟨some (0<=a),none,.tup [.str (aG l a ns).1,.int .i64 (aG l a ns).2.1,.st .fault (aG l a ns).2.2],[]⟩):=
 Bd (ee func120) fun l a ns _ _ hn ho=>g0 (sc iI (sc tM sn)) ⟨[(3,fun S0=>⟨Nat,fun k=>k<=ns.length,fun k=>[(12,.int .i64 k)],fun k=>[(11,.box (.st .fault (frF l a ns k)))],fun k=>ns.length - k⟩)],[],[]⟩ func120 (DL l a ns hn (ho _ rfl))
theorem y8:ac prog 109 (p2 .str .str fun p m=>.ret (.st .shape (co p m))):=
 dN (ee func109) fun p m _ _ _=>g0 sn ⟨[(3,fun S0=>⟨Nat,fun k=>1<=k/\k<=5/\(1 < k→¬(p=[]/\m=[73,110,116]))/\(2 < k→¬(p=[]/\m=[66,111,111,108]))/\(3 < k→¬(p=[]/\m=[84,101,120,116]))/\(4 < k→¬(p=[]/\m=[65,110,121])),fun k=>[(6,.int .i64 k)],fun _=>[],fun k=>5 - k⟩)],[],[]⟩ func109 (Ay p m)
theorem AK:ac prog 31 (p2 (.lst (.st .token)) (.int .i64) fun l a=>.ret (.tup [.int .i64 (eo l a).1,.st .fault (eo l a).2])):=
 dN (ee func31) fun l a hl _ _=>g0 sn a0 func31 (DM l a hl)
theorem y9:ar prog 110:=ee func110
theorem rZ (n:Nat) (l:List Tokn) (a k:Int) (btw en:Str) (ho:l.length<=4097/\dr l/\0<=a/\a<=(l.length:Int)/\((l.length:Int) - a).toNat+1 < n+1) (hS:ac prog 54 (p2 (.lst (.st .token)) (.int .i64) fun l a=>⟨some (l.length<=4097/\dr l/\0<=a/\a<=(l.length:Int)/\((l.length:Int) - a).toNat+1 < n),none,.tup [.st .shape (ai l n a).1,.int .i64 (ai l n a).2.1,.st .fault (ai l n a).2.2],[]⟩)):aq prog 110 [.lst (.st .token) l none,.int .i64 a,.int .i64 k,.str btw,.str en] [] (⟨some (l.length<=4097/\dr l/\0<=a/\a<=(l.length:Int)/\((l.length:Int) - a).toNat+1 < n+1),none,.tup [.st .shape (dR l (ai l n) a k btw en).1,.int .i64 (dR l (ai l n) a k btw en).2.1,.st .fault (dR l (ai l n) a k btw en).2.2],[]⟩):=
 g0 (sc m9 (sc AJ (sc oI (sc (hS) sn)))) ⟨[(3,fun S0=>⟨Nat × Nat × Int × Shape,fun y=>0<=y.2.2.1/\y.2.2.1<=(l.length:Int)/\((l.length:Int) - y.2.2.1).toNat+1 < n+1/\(l.length:Int) - y.2.2.1 < y.1/\y.2.1+y.1=l.length+2/\y.2.2.2.names.length=y.2.1/\y.2.2.2.parts.length=y.2.1/\(y.2.1=0→y.2.2.1=a/\y.2.2.2=⟨k,[],[],[],[]⟩)/\(0 < y.2.1→cN l (bW l (ai l n)) btw en y.1 y.2.2.2 y.2.2.1=cy l (bW l (ai l n)) btw en ⟨k,[],[],[],[]⟩ a),fun y=>[(1,.int .i64 y.2.2.1),(14,.int .i64 (y.2.1:Int))],fun y=>[(13,.box (.agg [.int .i64 (y.2.2.2).kind,.str (y.2.2.2).pkg,.str (y.2.2.2).name,.lst .str (y.2.2.2).names (some 701),.lst (.st .shape) (y.2.2.2).parts (some 702)])),(701,.tail .str y.2.2.2.names.length),(702,.tail (.st .shape) y.2.2.2.parts.length)],fun y=>y.1⟩)],[],[]⟩ func110 (xW n l a k btw en ho)
theorem vC (n:Nat) (hS:ac prog 54 (p2 (.lst (.st .token)) (.int .i64) fun l a=>⟨some (l.length<=4097/\dr l/\0<=a/\a<=(l.length:Int)/\((l.length:Int) - a).toNat+1 < n),none,.tup [.st .shape (ai l n a).1,.int .i64 (ai l n a).2.1,.st .fault (ai l n a).2.2],[]⟩)):ac prog 110 (p5 (.lst (.st .token)) (.int .i64) (.int .i64) .str .str fun l a k btw en=>⟨some (l.length<=4097/\dr l/\0<=a/\a<=(l.length:Int)/\((l.length:Int) - a).toNat+1 < n+1),none,.tup [.st .shape (dR l (ai l n) a k btw en).1,.int .i64 (dR l (ai l n) a k btw en).2.1,.st .fault (dR l (ai l n) a k btw en).2.2],[]⟩):=
 Jn y9 fun l a k btw en _ _ _ ho=>rZ n l a k btw en (ho _ rfl) hS
theorem sH:ar prog 111:=ee func111
theorem oJ (n:Nat) (l:List Tokn) (a:Int) (ho:l.length<=4097/\dr l/\0<=a/\a<=(l.length:Int)/\((l.length:Int) - a).toNat+1 < n) (hS:ac prog 54 (p2 (.lst (.st .token)) (.int .i64) fun l a=>⟨some (l.length<=4097/\dr l/\0<=a/\a<=(l.length:Int)/\((l.length:Int) - a).toNat+1 < n),none,.tup [.st .shape (ai l n a).1,.int .i64 (ai l n a).2.1,.st .fault (ai l n a).2.2],[]⟩)):aq prog 111 [.lst (.st .token) l none,.int .i64 a] [] (⟨some (l.length<=4097/\dr l/\0<=a/\a<=(l.length:Int)/\((l.length:Int) - a).toNat+1 < n),none,.tup [.st .shape (cr l (ai l n) a).1,.int .i64 (cr l (ai l n) a).2.1,.st .fault (cr l (ai l n) a).2.2],[]⟩):=
 g0 (sc m9 (sc oI (sc (hS) sn))) ⟨[(3,fun S0=>⟨Nat × Int × Shape × Bool,fun y=>0<=y.2.1/\y.2.1<=(l.length:Int)/\((l.length:Int) - y.2.1).toNat+1 < n/\(l.length:Int) - y.2.1 < y.1/\y.2.2.1.parts.length+y.1=l.length+2/\y.2.2.1.names=[]/\(y.2.2.2=false→cy l (ca (ai l n)) [44] [41] ⟨8,[],[],[],[]⟩ a=(y.2.2.1,y.2.1,okF)/\y.2.1 < (l.length:Int))/\(y.2.2.2=true→cN l (ca (ai l n)) [44] [41] y.1 y.2.2.1 y.2.1=cy l (ca (ai l n)) [44] [41] ⟨8,[],[],[],[]⟩ a),fun y=>[(1,.int .i64 y.2.1),(8,.bool y.2.2.2)],fun y=>[(7,.box (.agg [.int .i64 (y.2.2.1).kind,.str (y.2.2.1).pkg,.str (y.2.2.1).name,.nils,.lst (.st .shape) (y.2.2.1).parts (some 702)])),(702,.tail (.st .shape) y.2.2.1.parts.length)],fun y=>y.1+(if y.2.2.2=true then 1 else 0)⟩)],[],[]⟩ func111 (sG n l a ho)
theorem s7 (n:Nat) (hS:ac prog 54 (p2 (.lst (.st .token)) (.int .i64) fun l a=>⟨some (l.length<=4097/\dr l/\0<=a/\a<=(l.length:Int)/\((l.length:Int) - a).toNat+1 < n),none,.tup [.st .shape (ai l n a).1,.int .i64 (ai l n a).2.1,.st .fault (ai l n a).2.2],[]⟩)):ac prog 111 (p2 (.lst (.st .token)) (.int .i64) fun l a=>⟨some (l.length<=4097/\dr l/\0<=a/\a<=(l.length:Int)/\((l.length:Int) - a).toNat+1 < n),none,.tup [.st .shape (cr l (ai l n) a).1,.int .i64 (cr l (ai l n) a).2.1,.st .fault (cr l (ai l n) a).2.2],[]⟩):=
 dN sH fun l a _ _ ho=>oJ n l a (ho _ rfl) hS
theorem s8:ar prog 54:=ee func54
theorem sI (n:Nat) (l:List Tokn) (a:Int) (ho:l.length<=4097/\dr l/\0<=a/\a<=(l.length:Int)/\((l.length:Int) - a).toNat+1 < n+1) (hS:ac prog 54 (p2 (.lst (.st .token)) (.int .i64) fun l a=>⟨some (l.length<=4097/\dr l/\0<=a/\a<=(l.length:Int)/\((l.length:Int) - a).toNat+1 < n),none,.tup [.st .shape (ai l n a).1,.int .i64 (ai l n a).2.1,.st .fault (ai l n a).2.2],[]⟩)) (hF:ac prog 110 (p5 (.lst (.st .token)) (.int .i64) (.int .i64) .str .str fun l a k btw en=>⟨some (l.length<=4097/\dr l/\0<=a/\a<=(l.length:Int)/\((l.length:Int) - a).toNat+1 < n+1),none,.tup [.st .shape (dR l (ai l n) a k btw en).1,.int .i64 (dR l (ai l n) a k btw en).2.1,.st .fault (dR l (ai l n) a k btw en).2.2],[]⟩)) (hG:ac prog 111 (p2 (.lst (.st .token)) (.int .i64) fun l a=>⟨some (l.length<=4097/\dr l/\0<=a/\a<=(l.length:Int)/\((l.length:Int) - a).toNat+1 < n),none,.tup [.st .shape (cr l (ai l n) a).1,.int .i64 (cr l (ai l n) a).2.1,.st .fault (cr l (ai l n) a).2.2],[]⟩)):aq prog 54 [.lst (.st .token) l none,.int .i64 a] [] (⟨some (l.length<=4097/\dr l/\0<=a/\a<=(l.length:Int)/\((l.length:Int) - a).toNat+1 < n+1),none,.tup [.st .shape (ai l (n+1) a).1,.int .i64 (ai l (n+1) a).2.1,.st .fault (ai l (n+1) a).2.2],[]⟩):=
 g0 (sc iI (sc y8 (sc oI (sc tM (sc m9 (sc oH (sc (hS) (sc (hF) (sc (hG) sn))))))))) a0 func54 (Az n l a ho)
theorem ji:∀n:Nat,ac prog 54 (p2 (.lst (.st .token)) (.int .i64) fun l a=>⟨some (l.length<=4097/\dr l/\0<=a/\a<=(l.length:Int)/\((l.length:Int) - a).toNat+1 < n),none,.tup [.st .shape (ai l n a).1,.int .i64 (ai l n a).2.1,.st .fault (ai l n a).2.2],[]⟩)
 | 0=>dN s8 fun l a _ _ ho=>absurd (ho _ rfl).2.2.2.2 (Nat.not_lt_zero _)
 | n+1=>dN s8 fun l a _ _ ho=>sI n l a (ho _ rfl) (ji n) (vC n (ji n)) (s7 n (ji n))
theorem yb:ac prog 32 (p2 (.lst (.st .token)) (.int .i64) fun l a=>⟨some (l.length<=4097/\dr l/\0<=a/\a<=(l.length:Int)),none,.tup [.st .shape (dX l a).1,.int .i64 (dX l a).2.1,.st .fault (dX l a).2.2],[]⟩):=
 dN (ee func32) fun l a _ _ ho=>g0 (sc (ji big) (sc iI (sc AE sn))) a0 func32 (AA l a (ho _ rfl))
end Go.AL.Seat
end
section
namespace Go.Pd
open Go.AL
mutual
theorem eqS_self:∀a:Shape,eqS a a=true
 | ⟨k,p,m,ns,ps⟩=>by simp [eqS,eqL_self ps]
theorem eqL_self:∀l:List Shape,eqL l l=true
 | []=>by simp [eqL]
 | a ::r=>by simp [eqL,eqS_self a,eqL_self r]
end
end Go.Pd
end
section
namespace Go.Pd
open Go.AL
def Zf (f:Flt):Prop:=f.err=0→f=okF
theorem my:Zf okF:=fun _=>rfl
section
variable {l:List Tokn}
theorem vD (a:Int):Zf (jh l a):=fun e=>absurd e (by rw [rX];decide)
theorem vE (a:Int) (t:Str):Zf (aE l a t).2:=by
 unfold aE;split
 ·exact my
 ·exact vD a
theorem BC (a k:Int):Zf (bQ l a k).2.2:=by
 unfold bQ;split
 ·exact my
 ·exact vD a
theorem GI (a:Int) (ns:List Str):Zf (aG l a ns).2.2:=by
 show Zf (if _ then _ else _)
 split
 ·exact fun e=>absurd e (by show ¬(111:Int)=0;decide)
 ·exact BC a 1
def GG {σ:Type} (p:σ→Prop) (b:σ × Int × Flt):Prop:=p b.1/\Zf b.2.2
def KG {σ:Type} (p:σ→Prop) (r:σ→Int→σ × Int × Flt):Prop:=∀x a,p x→GG p (r x a)
theorem eU {σ:Type} {p:σ→Prop} {c:Prop} [Decidable c] {x y:σ × Int × Flt} (h1:GG p x) (h2:GG p y):GG p (if c then x else y):=by
 split
 ·exact h1
 ·exact h2
theorem tN {σ:Type} {p:σ→Prop} {r:σ→Int→σ × Int × Flt} (h:KG p r) (btw en:Str):∀(k:Nat) (x:σ) (a:Int),p x→GG p (cN l r btw en k x a)
 | 0,x,a,hx=>⟨hx,my⟩
 | k+1,x,a,hx=>by
  have h1:=h x a hx
  rw [cN]
  exact eU (eU ⟨h1.1,my⟩ (eU (tN h btw en k _ _ h1.1) ⟨h1.1,vE _ _⟩)) h1
theorem s9 {σ:Type} {p:σ→Prop} {r:σ→Int→σ × Int × Flt} (h:KG p r) (btw en:Str) (x:σ) (a:Int) (hx:p x):GG p (cy l r btw en x a):=eU ⟨hx,my⟩ (tN h btw en _ x a hx)
theorem BD {σ:Type} {p:σ→Prop} {b:σ × Int × Flt} (h:GG p b):GG p (hU b):=eU ⟨h.1,my⟩ h
theorem vF {σ:Type} {p:σ→Prop} {t:Str} {b:σ × Int × Flt} (h:GG p b):GG p (g8 l t b):=eU ⟨h.1,vE _ _⟩ h
end
section
variable {l:List Tokn}
abbrev GS (b:SR3):Prop:=GG (fun _=>True) b
theorem GJ {R:Int→SR3} (h:∀a,GS (R a)):KG (fun _=>True) (bW l R):=fun x a _=>by
 have hb:GG (fun _=>True) (g8 l [58] (aG l a x.names)):=vF ⟨trivial,GI _ _⟩
 exact eU (eU ⟨trivial,my⟩ ⟨trivial,(h _).2⟩) ⟨trivial,hb.2⟩
theorem I9 {R:Int→SR3} (h:∀a,GS (R a)):KG (fun _=>True) (ca R):=fun x a _=>eU ⟨trivial,my⟩ ⟨trivial,(h _).2⟩
theorem tO {R:Int→SR3} (h:∀a,GS (R a)) (a k:Int) (btw en:Str):GS (dR l R a k btw en):=BD (s9 (GJ h) btw en _ a trivial)
theorem ye {R:Int→SR3} (h:∀a,GS (R a)) (a:Int):GS (cr l R a):=by
 have hc:GS (g8 l [45,62] (hU (cy l (ca R) [44] [41] ⟨8,[],[],[],[]⟩ a))):=vF (BD (s9 (I9 h) [44] [41] _ a trivial))
 exact eU ⟨trivial,(h _).2⟩ hc
theorem yf:∀(n:Nat) (a:Int),GS (ai l n a)
 | 0,a=>⟨trivial,my⟩
 | n+1,a=>by
  have ih:=yf n
  show GS (kw l (ai l n) a)
  unfold kw
  refine eU ⟨trivial,my⟩ (eU (eU ⟨trivial,BC _ _⟩ ⟨trivial,vE _ _⟩) (eU ?_ (eU (tO ih _ _ _ _) (eU (tO ih _ _ _ _) (eU (ye ih _) ⟨trivial,vD _⟩)))))
  exact ⟨trivial,(vF (l:=l) (t:=[93]) (ih (a+1))).2⟩
theorem GK (a:Int):Zf (dX l a).2.2:=by
 show Zf (if (ai l big a).2.2.err=0/\¬bK (ai l big a).1=0 then (⟨bK (ai l big a).1,(bB l a).pos⟩:Flt) else (ai l big a).2.2)
 split
 ·exact fun e=>absurd e (by rename_i c;exact c.2)
 ·exact (yf big a).2
end
section
variable {l:List Tokn}
variable {R:Int→TR3}
end
end Go.Pd
end
section
namespace Go.Pd
open Go.AL
theorem yg {y z:Str} (hy:y≠[]) (hz:∀c z',z=c ::z'→c.toNat / 64≠2):cw (y++z)=cw y:=by
 cases y with
 | nil=>exact absurd rfl hy
 | cons b r=>
  cases z with
  | nil=>rw [List.append_nil]
  | cons c z'=>
   have hc:=hz c z' rfl
   rcases r with _ | ⟨x,_ | ⟨y,_ | ⟨w,t⟩⟩⟩ <;> simp [cw,nA,oj,hc]
theorem vG {p:UInt8→Bool}:∀{l:Str} {c:UInt8} {z:Str},l.dropWhile p=c ::z→p c=false
 | [],_,_,h=>by cases h
 | b ::l,c,z,h=>by
  rw [List.dropWhile_cons] at h
  by_cases hb:p b=true
  ·rw [if_pos hb] at h;exact vG h
  ·rw [if_neg hb] at h;cases h;simpa using hb
theorem AM {p:UInt8→Bool}:∀{l:Str} {c:UInt8},c∈l.takeWhile p→p c=true
 | [],_,h=>by cases h
 | b ::l,c,h=>by
  rw [List.takeWhile_cons] at h
  by_cases hb:p b=true
  ·rw [if_pos hb] at h
   cases h with
   | head=>exact hb
   | tail _ k=>exact AM k
  ·rw [if_neg hb] at h;cases h
theorem nM (s:Str) (a w:Nat):cut s (a:Int) ((a:Int)+(w:Int))=(s.drop a).take w:=by
 unfold cut
 have e1:((a:Int)+(w:Int)).toNat=a+w:=by omega
 rw [e1,Int.toNat_natCast,List.drop_take]
 congr 1;omega
theorem gG (p:Int→Bool) (s:Str) (a:Nat):ae p s (a:Int)=((s.drop a).takeWhile fun b=>p (bI b)).length:=by
 unfold ae;rw [Int.toNat_natCast]
theorem Ia (p:UInt8→Bool) (l:Str):l.take (l.takeWhile p).length=l.takeWhile p:=by
 conv=>lhs;arg 2;rw [←List.takeWhile_append_dropWhile (p:=p) (l:=l)]
 exact List.take_left
theorem tP (p:Int→Bool) (s:Str) (a:Nat):cut s (a:Int) ((a:Int)+(ae p s (a:Int):Int))=(s.drop a).takeWhile fun b=>p (bI b):=by
 rw [nM,gG,Ia]
theorem jj (s:Str) (a:Nat):bAt s (a:Int)=if a < s.length then bI (s.getD a 0) else 0:=by
 unfold bAt;rw [Int.toNat_natCast]
 by_cases h:a < s.length
 ·rw [if_pos h,if_pos (by omega)]
 ·rw [if_neg h,if_neg (by omega)]
theorem eV (s:Str) (a i:Nat):(s.drop a).getD i 0=s.getD (a+i) 0:=by
 simp [List.getD_eq_getElem?_getD]
theorem sa {t x z:Str} {n:Nat} (h:t.drop n=x++z) (hx:∀c∈x,bI c≠10) (hz:∀c z',z=c ::z'→bI c=10) (j f:Nat) (hj:j<=x.length) (hf:x.length - j < f) :
  ki t f (n+j)=match gh x j with | none=>(((n+x.length:Nat):Int),⟨0,0⟩) | some k=>(0,⟨30,((n+k:Nat):Int)⟩):=by
 obtain ⟨f,rfl⟩:∃g,f=g+1:=⟨f - 1,by omega⟩
 have hd:t.drop (n+j)=x.drop j++z:=by rw [←List.drop_drop,h,List.drop_append_of_le_length hj]
 have hg:t.getD (n+j) 0=(x.drop j++z).getD 0 0:=by rw [←hd,kf]
 have hlen:t.length - (n+j)=(x.length - j)+z.length:=by
  have:=congrArg List.length hd
  rwa [List.length_drop,List.length_append,List.length_drop] at this
 rw [ki]
 by_cases hjx:j=x.length
 ·subst hjx
  rw [om (Nat.le_refl _),if_neg]
  rintro ⟨a,b⟩
  cases z with
  | nil=>rw [List.length_nil] at hlen;omega
  | cons c z'=>exact b (by rw [hg,List.drop_length];exact hz c z' rfl)
 ·have hj':j < x.length:=by omega
  obtain ⟨c,y,hy⟩:∃c y,x.drop j=c ::y:=by
   cases e:x.drop j with
   | nil=>have:=congrArg List.length e;rw [List.length_drop,List.length_nil] at this;omega
   | cons c y=>exact ⟨c,y,rfl⟩
  have hc:c∈x:=List.mem_of_mem_drop (by rw [hy];exact List.mem_cons_self)
  have hu:cw (t.drop (n+j))=cw (x.drop j):=by
   rw [hd]
   refine yg (by rw [hy];exact List.cons_ne_nil _ _) (fun c z' e=>?_)
   have:=hz c z' e
   unfold bI at this;omega
  rw [if_pos ⟨by omega,by rw [hg,hy];exact hx c hc⟩,hu]
  by_cases hb:cw (x.drop j)=0
  ·rw [if_pos hb,oq hj' hb]
  ·rw [if_neg hb,kg hj' hb,Nat.add_assoc]
   have hle:=km (s:=x) hj
   exact sa h hx hz (j+cw (x.drop j)) f hle (by omega)
termination_by x.length - j
decreasing_by omega
theorem sb (c:Int):aN c=true↔32<=c/\c≠34/\c≠92:=by
 unfold aN
 simp only [Bool.and_eq_true,Bool.not_eq_true',decide_eq_true_eq,decide_eq_false_iff_not,and_assoc,ne_eq]
theorem yh {t x z:Str} {i:Nat} (h:t.drop i=x++z) (hx:∀c∈x,aN (bI c)=true) (hz:∀c z',z=c ::z'→aN (bI c)=false) (j f:Nat) (acc:Str) (hj:j<=x.length) (hf:t.length - (i+j) < f) :
  (gh x j=none→∃g,t.length - (i+x.length) < g/\bC t f acc (i+j)=bC t g (acc++x.drop j) (i+x.length))/\
  (∀k,gh x j=some k→bC t f acc (i+j)=(jm,0,⟨30,((i+k:Nat):Int)⟩)):=by
 by_cases hjx:j=x.length
 ·subst hjx
  rw [om (Nat.le_refl _)]
  refine ⟨fun _=>⟨f,hf,by rw [List.drop_length,List.append_nil]⟩,fun k e=>by cases e⟩
 ·have hj':j < x.length:=by omega
  obtain ⟨f,rfl⟩:∃g,f=g+1:=⟨f - 1,by omega⟩
  have hd:t.drop (i+j)=x.drop j++z:=by rw [←List.drop_drop,h,List.drop_append_of_le_length hj]
  have hg:t.getD (i+j) 0=(x.drop j++z).getD 0 0:=by rw [←hd,kf]
  have hlen:t.length - (i+j)=(x.length - j)+z.length:=by
   have:=congrArg List.length hd
   rwa [List.length_drop,List.length_append,List.length_drop] at this
  obtain ⟨c,y,hy⟩:∃c y,x.drop j=c ::y:=by
   cases e:x.drop j with
   | nil=>have:=congrArg List.length e;rw [List.length_drop,List.length_nil] at this;omega
   | cons c y=>exact ⟨c,y,rfl⟩
  have hc:c∈x:=List.mem_of_mem_drop (by rw [hy];exact List.mem_cons_self)
  have hg':t.getD (i+j) 0=c:=by rw [hg,hy];rfl
  have hu:cw (t.drop (i+j))=cw (x.drop j):=by
   rw [hd]
   refine yg (by rw [hy];exact List.cons_ne_nil _ _) (fun c z' e=>?_)
   have h2:=hz c z' e
   have h3:=F0 c
   have h4:¬(aN (bI c)=true):=by rw [h2];decide
   rw [sb] at h4
   unfold bI at h3 h4;omega
  obtain ⟨p1,p2,p3⟩:=(sb _).1 (hx c hc)
  have step:bC t (f+1) acc (i+j)=if cw (x.drop j)=0 then (jm,0,⟨30,((i+j:Nat):Int)⟩) else bC t f (acc++(x.drop j++z).take (cw (x.drop j))) (i+j+cw (x.drop j)):=by
   rw [bC,if_pos (by omega),hg',if_neg p2,if_neg (by omega),if_neg p3,hu,hd]
  rw [step]
  by_cases hb:cw (x.drop j)=0
  ·rw [if_pos hb,oq hj' hb]
   exact ⟨fun e=>(by cases e),fun k e=>by cases e;rfl⟩
  ·rw [if_neg hb,kg hj' hb,Nat.add_assoc]
   have hle:=km (s:=x) hj
   have hlx:=Bw (x.drop j)
   obtain ⟨r1,r2⟩:=yh h hx hz (j+cw (x.drop j)) f (acc++(x.drop j++z).take (cw (x.drop j))) hle (by omega)
   refine ⟨fun e=>?_,r2⟩
   obtain ⟨g,g1,g2⟩:=r1 e
   refine ⟨g,g1,?_⟩
   rw [g2,List.append_assoc,List.take_append_of_le_length hlx]
   congr 2
   conv=>rhs;rw [←List.take_append_drop (cw (x.drop j)) (x.drop j)]
   rw [List.drop_drop]
termination_by x.length - j
decreasing_by omega
theorem lD {s:Str} {a:Nat} (i n f:Nat) (acc:Str) (c:SC) (hc:c.pos=((a+i:Nat):Int)) (hi:a+i<=s.length) (hn:s.length - (a+i) < n) (hf:s.length - (a+i) < f) :
  ((cD s a n acc c).2.1=true→∃w:Nat,(cD s a n acc c).2.2=ce c (a+w)/\bC (s.drop a) f acc i=okK 4 (cD s a n acc c).1 w)/\
  ((cD s a n acc c).2.1=false→bC (s.drop a) f acc i=(jm,0,⟨(cD s a n acc c).2.2.err,(cD s a n acc c).2.2.fat - a⟩)):=by
 obtain ⟨n,rfl⟩:∃g,n=g+1:=⟨n - 1,by omega⟩
 have hl:(s.drop a).length=s.length - a:=List.length_drop
 have hb:bAt s c.pos=if i < (s.drop a).length then bI ((s.drop a).getD i 0) else 0:=by
  rw [hc,jj,eV]
  by_cases h:a+i < s.length
  ·rw [if_pos h,if_pos (by omega)]
  ·rw [if_neg h,if_neg (by omega)]
 have bad:∀(c':SC),(jm,(0:Int),(⟨60,0⟩:Flt))=(jm,0,⟨(ek 60 (a:Int) c').2.err,(ek 60 (a:Int) c').2.fat - a⟩):=fun c'=>by
  show _=(jm,(0:Int),(⟨60,(a:Int) - a⟩:Flt));rw [Int.sub_self]
 rw [cD]
 obtain ⟨g,rfl⟩:∃g,f=g+1:=⟨f - 1,by omega⟩
 by_cases h1:bAt s c.pos < 32
 ·rw [if_pos h1]
  refine ⟨fun e=>(by cases e),fun _=>?_⟩
  rw [bC]
  by_cases k:i < (s.drop a).length
  ·rw [if_pos k] at hb
   rw [if_pos k,←hb,if_neg (by omega),if_pos h1]
   exact bad c
  ·rw [if_neg k]
   exact bad c
 rw [if_neg h1]
 have hlt:i < (s.drop a).length:=by
  rcases Nat.lt_or_ge i (s.drop a).length with k | k
  ·exact k
  ·rw [if_neg (by omega)] at hb;rw [hb] at h1;exact absurd (by decide) h1
 rw [if_pos hlt] at hb
 by_cases h2:bAt s c.pos=34
 ·rw [if_pos h2]
  refine ⟨fun _=>⟨i+1,?_,?_⟩,fun e=>by cases e⟩
  ·show ce c (c.pos+1)=_
   rw [hc];congr 1
  ·rw [bC,if_pos hlt,←hb,if_pos h2]
   rfl
 rw [if_neg h2]
 by_cases h3:bAt s c.pos=92
 ·rw [if_pos h3]
  have hb2:bAt s (c.pos+1)=if i+1 < (s.drop a).length then bI ((s.drop a).getD (i+1) 0) else 0:=by
   have e:c.pos+1=((a+(i+1):Nat):Int):=by omega
   rw [e,jj,eV]
   by_cases h:a+(i+1) < s.length
   ·rw [if_pos h,if_pos (by omega)]
   ·rw [if_neg h,if_neg (by omega)]
  have hr:bC (s.drop a) (g+1) acc i=if i+1=(s.drop a).length then mc else match ij (bI ((s.drop a).getD (i+1) 0)) with
     | none=>mc
     | some x=>bC (s.drop a) g (acc++[UInt8.ofNat x.toNat]) (i+2):=by
   rw [bC,if_pos hlt,←hb,if_neg h2,if_neg h1,if_pos h3]
   rfl
  rw [hr]
  by_cases k:i+1=(s.drop a).length
  ·rw [if_pos k]
   rw [if_neg (by omega)] at hb2
   rw [hb2]
   have e0:ij 0=none:=by decide
   rw [e0]
   exact ⟨fun e=>(by cases e),fun _=>bad c⟩
  ·rw [if_neg k]
   rw [if_pos (by omega)] at hb2
   rw [←hb2]
   cases he:ij (bAt s (c.pos+1)) with
   | none=>exact ⟨fun e=>(by cases e),fun _=>bad c⟩
   | some x=>
    exact lD (i+2) n g (acc++[UInt8.ofNat x.toNat]) (ce c (c.pos+2)) (by show c.pos+2=_;omega) (by omega) (by omega) (by omega)
 rw [if_neg h3]
 have hcut:cut s c.pos (c.pos+(ae aN s c.pos:Int))=(s.drop (a+i)).takeWhile fun b=>aN (bI b):=by rw [hc,tP]
 have hw:ae aN s c.pos=((s.drop (a+i)).takeWhile fun b=>aN (bI b)).length:=by rw [hc,gG]
 have hsplit:(s.drop a).drop i=((s.drop (a+i)).takeWhile fun b=>aN (bI b))++((s.drop (a+i)).dropWhile fun b=>aN (bI b)):=by
  rw [List.drop_drop];exact List.takeWhile_append_dropWhile.symm
 have hpos:=(ou (s:=s) (a:=c.pos) h1 h2 h3).2 (by omega)
 rw [hcut,hw]
 rw [hw] at hpos
 have hle:a+i+((s.drop (a+i)).takeWhile fun b=>aN (bI b)).length<=s.length:=by
  have:=(List.takeWhile_sublist (fun b=>aN (bI b)) (l:=s.drop (a+i))).length_le
  rw [List.length_drop] at this;omega
 have hx:∀c∈((s.drop (a+i)).takeWhile fun b=>aN (bI b)),aN (bI c)=true:=fun c h=>AM (p:=fun b=>aN (bI b)) h
 have hz:∀c z',((s.drop (a+i)).dropWhile fun b=>aN (bI b))=c ::z'→aN (bI c)=false:=fun c z' h=>vG (p:=fun b=>aN (bI b)) h
 generalize ((s.drop (a+i)).takeWhile fun b=>aN (bI b))=x at *
 generalize ((s.drop (a+i)).dropWhile fun b=>aN (bI b))=z at *
 obtain ⟨r1,r2⟩:=yh hsplit hx hz 0 (g+1) acc (Nat.zero_le _) (by omega)
 simp only [qU,Nat.add_zero,List.drop_zero] at r1 r2
 cases he:cU x with
 | some k=>
  refine ⟨fun e=>(by cases e),fun _=>?_⟩
  rw [r2 k he]
  show _=(jm,(0:Int),(⟨30,c.pos+k - a⟩:Flt))
  have e:c.pos+k - a=((i+k:Nat):Int):=by omega
  rw [e]
 | none=>
  obtain ⟨g',g1,g2⟩:=r1 he
  rw [g2]
  exact lD (i+x.length) n g' (acc++x) (ce c (c.pos+x.length)) (by show c.pos+_=_;omega) (by omega) (by omega) (by omega)
termination_by s.length - (a+i)
decreasing_by all_goals omega
def GL (c:SC) (q:Bool × SC) (r:TK3):Prop:=
 (q.1=true→∃k tx,∃w:Nat,r=okK k tx w/\q.2=⟨c.pos+w,c.out++[⟨k,tx,c.pos⟩],c.err,c.fat⟩)/\(q.1=false→r.2.2=⟨q.2.err,q.2.fat - c.pos⟩)
theorem kx (c:SC) (k:Int) (t:Str) (w:Nat):GL c (fT k t c.pos (ce c (c.pos+w))) (okK k t w):=⟨fun _=>⟨k,t,w,rfl,rfl⟩,fun e=>by cases e⟩
theorem sd (c:SC) (x:Int):GL c (ek 60 c.pos (ce c x)) mc:=⟨fun e=>(by cases e),fun _=>by
 show (⟨60,0⟩:Flt)=⟨60,c.pos - c.pos⟩;rw [Int.sub_self]⟩
theorem yi:∀s:Str,(s.takeWhile fun b=>bA (bI b)).length=cl s
 | []=>rfl
 | b ::r=>by
  rw [List.takeWhile_cons,cl]
  by_cases h:bA (bI b)=true
  ·rw [if_pos h,if_pos h,List.length_cons,yi r]
  ·rw [if_neg h,if_neg h];rfl
theorem yj {t:Str} (h:1<=t.length):mw t=fo t:=by
 unfold mw fo cx
 rw [show decide (1<=t.length)=true from Xd h,Bool.and_true]
 congr 1
 cases t with
 | nil=>exact absurd h (by decide)
 | cons b r=>
  cases r with
  | nil=>
   by_cases hb:b=48
   ·subst hb;rfl
   ·have:¬bI b=48:=fun e=>hb (UInt8.toNat_inj.1 (by unfold bI at e;have:(48:UInt8).toNat=48:=rfl;omega))
    simp [this]
  | cons x y=>simp
theorem AN {s:Str} {a:Nat} (ha:a < s.length) (out:List Tokn) (e fa:Int):GL ⟨a,out,e,fa⟩ (aX s ⟨a,out,e,fa⟩) (bV (s.drop a)):=by
 have hl:(s.drop a).length=s.length - a:=List.length_drop
 have hb:bAt s (a:Int)=bI ((s.drop a).getD 0 0):=by rw [jj,if_pos ha,kf]
 unfold aX bV
 simp only [hb]
 by_cases h1:bJ (bI ((s.drop a).getD 0 0))=true∨bP (bI ((s.drop a).getD 0 0))=true
 ·rw [if_pos h1,if_pos h1]
  have hw:ae bA s (a:Int)=cl (s.drop a):=by rw [gG,yi]
  have hcut:cut s (a:Int) ((a:Int)+(cl (s.drop a):Int))=(s.drop a).take (cl (s.drop a)):=nM _ _ _
  simp only [hw,hcut]
  unfold uN lU
  by_cases x:j9 ((s.drop a).take (cl (s.drop a)))=true
  ·rw [if_pos x,if_pos x];exact kx ⟨a,out,e,fa⟩ _ _ _
  rw [if_neg x,if_neg x]
  by_cases y:aU ((s.drop a).take (cl (s.drop a)))=true
  ·rw [if_pos y,if_pos y];exact kx ⟨a,out,e,fa⟩ _ _ _
  rw [if_neg y,if_neg y]
  by_cases z:cZ ((s.drop a).take (cl (s.drop a)))=true
  ·rw [if_pos z,if_pos z];exact kx ⟨a,out,e,fa⟩ _ _ _
  rw [if_neg z,if_neg z]
  exact sd ⟨a,out,e,fa⟩ _
 rw [if_neg h1,if_neg h1]
 by_cases h2:aM (bI ((s.drop a).getD 0 0))=true
 ·rw [if_pos h2,if_pos h2]
  have hw0:ae aF (s.drop a) 0=ae aF s (a:Int):=by rw [gG];rfl
  rw [hw0]
  have hcut:cut s (a:Int) ((a:Int)+(ae aF s (a:Int):Int))=(s.drop a).take (ae aF s (a:Int)):=nM _ _ _
  simp only [hcut]
  have hp:=cp (pr:=aF) (s:=s) (a:=a) (by omega) (by omega) (by
   have:s.getD (a:Int).toNat 0=(s.drop a).getD 0 0:=by rw [Int.toNat_natCast,kf]
   rw [this];unfold aF;rw [h2,Bool.or_true];rfl)
  have hle:=du (pr:=aF) (s:=s) (a:=a) (by omega) (by omega)
  unfold zg lV
  rw [yj (by rw [List.length_take];omega)]
  by_cases x:fo ((s.drop a).take (ae aF s (a:Int)))=true
  ·rw [if_pos x,if_pos x];exact kx ⟨a,out,e,fa⟩ _ _ _
  rw [if_neg x,if_neg x]
  by_cases y:(bY ((s.drop a).take (ae aF s (a:Int)))).2=0
  ·rw [if_pos y,if_pos y];exact kx ⟨a,out,e,fa⟩ _ _ _
  rw [if_neg y,if_neg y]
  exact sd ⟨a,out,e,fa⟩ _
 rw [if_neg h2,if_neg h2]
 by_cases h3:bI ((s.drop a).getD 0 0)=34
 ·rw [if_pos h3,if_pos h3]
  obtain ⟨q1,q2⟩:=lD (s:=s) (a:=a) 1 (s.length+2) ((s.drop a).length+2) [] (ce ⟨a,out,e,fa⟩ ((a:Int)+1)) rfl (by omega) (by omega) (by omega)
  unfold zh cH dh
  by_cases x:(cD s a (s.length+2) [] (ce ⟨a,out,e,fa⟩ ((a:Int)+1))).2.1=true
  ·obtain ⟨w,w1,w2⟩:=q1 x
   simp only [x,if_true]
   refine ⟨fun _=>⟨4,(cD s a (s.length+2) [] (ce ⟨a,out,e,fa⟩ ((a:Int)+1))).1,w,w2,?_⟩,fun e=>by cases e⟩
   rw [w1];rfl
  ·have x':(cD s a (s.length+2) [] (ce ⟨a,out,e,fa⟩ ((a:Int)+1))).2.1=false:=by simpa using x
   simp only [x',Bool.false_eq_true,if_false]
   refine ⟨fun e=>(by cases e),fun _=>?_⟩
   rw [q2 x']
 rw [if_neg h3,if_neg h3]
 unfold wE nF ff
 have c2:cut s (a:Int) ((a:Int)+2)=(s.drop a).take 2:=nM s a 2
 have c1:cut s (a:Int) ((a:Int)+1)=(s.drop a).take 1:=nM s a 1
 simp only [c2,c1]
 by_cases x:2<=(s.drop a).length/\fS ((s.drop a).take 2)=true
 ·rw [if_pos x,if_pos (by rw [x.2,Bool.and_true];exact Xd (by omega))]
  exact kx ⟨a,out,e,fa⟩ 6 _ 2
 rw [if_neg x,if_neg (fun h=>x (by simp only [Bool.and_eq_true,decide_eq_true_eq] at h;exact ⟨by omega,h.2⟩))]
 by_cases y:fS ((s.drop a).take 1)=true
 ·rw [if_pos y,if_pos (by rw [y,Bool.and_true];exact Xd (by omega))]
  exact kx ⟨a,out,e,fa⟩ 6 _ 1
 rw [if_neg y,if_neg (fun h=>y (by simp only [Bool.and_eq_true,decide_eq_true_eq] at h;exact h.2))]
 exact sd ⟨a,out,e,fa⟩ _
theorem nN (s:Str):∀(w a n:Nat) (out:List Tokn) (e fa:Int),(∀i < w,aH (bAt s ((a+i:Nat):Int))=true)→w<=n→
  fe s n ⟨a,out,e,fa⟩=fe s (n - w) ⟨((a+w:Nat):Int),out,e,fa⟩
 | 0,a,n,out,e,fa,_,_=>rfl
 | w+1,a,n,out,e,fa,h,hn=>by
  obtain ⟨n,rfl⟩:∃g,n=g+1:=⟨n - 1,by omega⟩
  have h0:aH (bAt s (a:Int))=true:=h 0 (by omega)
  have hlt:=pN (s:=s) (a:=(a:Int)) (fun k=>by rw [k] at h0;exact absurd h0 (by decide))
  rw [fe,if_neg (by show ¬(a:Int)=_;omega),if_pos h0]
  have:=nN s w (a+1) n out e fa (fun i hi=>by have:=h (i+1) (by omega);rwa [show a+1+i=a+(i+1) by omega]) (by omega)
  rw [show n+1 - (w+1)=n - w by omega,show a+(w+1)=a+1+w by omega,←this]
  rfl
theorem BE {p:UInt8→Bool}:∀{l:Str} {i:Nat},i < (l.takeWhile p).length→p (l.getD i 0)=true
 | [],i,h=>absurd h (Nat.not_lt_zero _)
 | b ::l,i,h=>by
  rw [List.takeWhile_cons] at h
  by_cases hb:p b=true
  ·rw [if_pos hb] at h
   cases i with
   | zero=>exact hb
   | succ i=>exact BE (l:=l) (i:=i) (by rw [List.length_cons] at h;omega)
  ·rw [if_neg hb] at h;exact absurd h (Nat.not_lt_zero _)
theorem ma (s:Str) (a n f:Nat) (out:List Tokn) (e fa:Int) (ha:a<=s.length) (hn:s.length - a < n) (hf:s.length - a < f) :
  fe s n ⟨a,out,e,fa⟩=fX s f a out:=by
 obtain ⟨f,rfl⟩:∃g,f=g+1:=⟨f - 1,by omega⟩
 by_cases hae:a=s.length
 ·obtain ⟨n,rfl⟩:∃g,n=g+1:=⟨n - 1,by omega⟩
  rw [fe,fX,if_pos (by show (a:Int)=_;omega),if_neg (by omega)]
 have hlt:a < s.length:=by omega
 have hl:(s.drop a).length=s.length - a:=List.length_drop
 have hw0:ae aH (s.drop a) 0=((s.drop a).takeWhile fun b=>aH (bI b)).length:=gG aH (s.drop a) 0
 have hwle:ae aH (s.drop a) 0<=s.length - a:=by
  rw [hw0,←hl];exact (List.takeWhile_sublist _).length_le
 have hblank:∀i < ae aH (s.drop a) 0,aH (bAt s ((a+i:Nat):Int))=true:=fun i hi=>by
  rw [jj,if_pos (by omega),←eV]
  rw [hw0] at hi
  exact BE (p:=fun b=>aH (bI b)) hi
 have hstop:a+ae aH (s.drop a) 0 < s.length→aH (bAt s ((a+ae aH (s.drop a) 0:Nat):Int))=false:=fun h=>by
  rw [jj,if_pos h,←eV,hw0]
  exact vn (fun b=>aH (bI b)) (s.drop a) (by rw [←hw0,hl];omega)
 have hP:bd (s.drop a)=if (s.drop a).length<=ae aH (s.drop a) 0+1∨bI ((s.drop a).getD (ae aH (s.drop a) 0) 0)≠45∨bI ((s.drop a).getD (ae aH (s.drop a) 0+1) 0)≠45 then ((ae aH (s.drop a) 0:Int),⟨0,0⟩) else ki (s.drop a) ((s.drop a).length+1) (ae aH (s.drop a) 0):=rfl
 rw [nN s _ a n out e fa hblank (by omega),fX,if_pos hlt]
 generalize ae aH (s.drop a) 0=w at *
 by_cases hr:(s.drop a).length<=w+1∨bI ((s.drop a).getD w 0)≠45∨bI ((s.drop a).getD (w+1) 0)≠45
 ·rw [if_pos hr] at hP
  rw [hP,if_neg (by simp)]
  by_cases hw:0 < w
  ·rw [if_pos (by show (0:Int) < w;omega)]
   exact ma s (a+w) (n - w) f out e fa (by omega) (by omega) (by omega)
  ·obtain rfl:w=0:=by omega
   rw [if_neg (by show ¬(0:Int) < (0:Nat);omega)]
   obtain ⟨n,rfl⟩:∃g,n=g+1:=⟨n - 1,by omega⟩
   have hnb:¬aH (bAt s ((a+0:Nat):Int))=true:=by rw [hstop (by omega)];decide
   have hnr:¬(bAt s ((a+0:Nat):Int)=45/\bAt s (((a+0:Nat):Int)+1)=45):=fun k=>by
    have k1:=k.1
    have k2:=k.2
    rw [show (((a+0:Nat):Int)+1)=((a+1:Nat):Int) by omega] at k2
    have l2:=pN (s:=s) (a:=((a+1:Nat):Int)) (by rw [k2];decide)
    rw [jj,if_pos (by omega),←eV] at k1 k2
    rcases hr with h | h | h
    ·omega
    ·exact h k1
    ·exact h k2
   rw [show n+1 - 0=n+1 from rfl,fe,if_neg (by show ¬((a+0:Nat):Int)=_;omega),if_neg hnb,if_neg hnr]
   have hs:=AN hlt out e fa
   obtain ⟨s1,s2⟩:=hs
   show (if (aX s ⟨(a:Int),out,e,fa⟩).1=true then fe s n (aX s ⟨(a:Int),out,e,fa⟩).2 else _)=_
   by_cases ht:(aX s ⟨(a:Int),out,e,fa⟩).1=true
   ·obtain ⟨k,tx,w,r1,r2⟩:=s1 ht
    obtain ⟨f1,f2,f3⟩:=ip (s:=s) (c:=⟨a,out,e,fa⟩) (by show (0:Int)<=(a:Int);omega) (by show (a:Int) < _;omega) ht
    rw [if_pos ht,r1,if_neg (by show ¬¬(0:Int)=0;simp)]
    rw [r2] at f1 f2 ⊢
    have f1':(a:Int) < a+w:=f1
    have f2':(a:Int)+w<=(s.length:Int):=f2
    have:=ma s (a+w) n f (out++[⟨k,tx,a⟩]) e fa (by omega) (by omega) (by omega)
    rw [show ((a+w:Nat):Int)=(a:Int)+(w:Int) by omega] at this
    rw [this]
    rfl
   ·have ht':(aX s ⟨(a:Int),out,e,fa⟩).1=false:=by simpa using ht
    have he:=ro (s:=s) (c:=⟨a,out,e,fa⟩) (by show (0:Int)<=(a:Int);omega) (by show (a:Int) < _;omega) ht'
    rw [if_neg ht,s2 ht',if_pos he]
    show _=(([]:List Tokn),(⟨_,(a:Int)+(_ - (a:Int))⟩:Flt))
    rw [show ∀x:Int,(a:Int)+(x - (a:Int))=x from fun x=>by omega]
    rfl
 ·rw [if_neg hr] at hP
  simp only [not_or,Nat.not_le,ne_eq,Decidable.not_not] at hr
  obtain ⟨r1,r2,r3⟩:=hr
  have hb1:bAt s ((a+w:Nat):Int)=45:=by rw [jj,if_pos (by omega),←eV];exact r2
  have hb2:bAt s (((a+w:Nat):Int)+1)=45:=by
   rw [show (((a+w:Nat):Int)+1)=((a+(w+1):Nat):Int) by omega,jj,if_pos (by omega),←eV];exact r3
  obtain ⟨m,hm⟩:∃g,n - w=g+1:=⟨n - w - 1,by omega⟩
  rw [hm,fe,if_neg (by show ¬((a+w:Nat):Int)=_;omega),if_neg (by rw [hb1];decide),if_pos ⟨hb1,hb2⟩]
  have hcut:=tP cd s (a+w)
  have hwn:=gG cd s (a+w)
  have hsplit:(s.drop a).drop w=((s.drop (a+w)).takeWhile fun b=>cd (bI b))++((s.drop (a+w)).dropWhile fun b=>cd (bI b)):=by
   rw [List.drop_drop];exact List.takeWhile_append_dropWhile.symm
  have hx:∀c∈((s.drop (a+w)).takeWhile fun b=>cd (bI b)),bI c≠10:=fun c h=>by
   have:=AM (p:=fun b=>cd (bI b)) h
   simpa [cd] using this
  have hz:∀c z',((s.drop (a+w)).dropWhile fun b=>cd (bI b))=c ::z'→bI c=10:=fun c z' h=>by
   have:=vG (p:=fun b=>cd (bI b)) h
   simpa [cd] using this
  have hone:1<=((s.drop (a+w)).takeWhile fun b=>cd (bI b)).length:=by
   have:=cp (pr:=cd) (s:=s) (a:=((a+w:Nat):Int)) (by omega) (by omega) (by
    have:s.getD (((a+w:Nat):Int)).toNat 0=(s.drop a).getD w 0:=by rw [Int.toNat_natCast,eV]
    rw [this,r2];decide)
   omega
  have hle:a+w+((s.drop (a+w)).takeWhile fun b=>cd (bI b)).length<=s.length:=by
   have:=(List.takeWhile_sublist (fun b=>cd (bI b)) (l:=s.drop (a+w))).length_le
   rw [List.length_drop] at this;omega
  have hmove:∀o e' fa' (y:Nat),ce ⟨((a+w:Nat):Int),o,e',fa'⟩ (((a+w:Nat):Int)+(y:Int))=⟨((a+w+y:Nat):Int),o,e',fa'⟩:=fun o e' fa' y=>by
   unfold ce;congr 1
  show (match cU (cut s ((a+w:Nat):Int) (((a+w:Nat):Int)+(ae cd s ((a+w:Nat):Int):Int))) with
   | some k=>(([]:List Tokn),(⟨30,((a+w:Nat):Int)+(k:Int)⟩:Flt))
   | none=>fe s m (ce ⟨((a+w:Nat):Int),out,e,fa⟩ (((a+w:Nat):Int)+(ae cd s ((a+w:Nat):Int):Int))))=_
  rw [hcut,hwn,hmove]
  generalize ((s.drop (a+w)).takeWhile fun b=>cd (bI b))=x at *
  generalize ((s.drop (a+w)).dropWhile fun b=>cd (bI b))=z at *
  have hrem:=sa hsplit hx hz 0 ((s.drop a).length+1) (Nat.zero_le _) (by omega)
  simp only [Nat.add_zero,qU] at hrem
  rw [←hP] at hrem
  cases he:cU x with
  | some k=>
   rw [he] at hrem
   rw [hrem,if_pos (by show ¬(30:Int)=0;decide)]
   show (([]:List Tokn),(⟨30,((a+w:Nat):Int)+(k:Int)⟩:Flt))=([],⟨30,(a:Int)+((w+k:Nat):Int)⟩)
   congr 2;omega
  | none=>
   rw [he] at hrem
   rw [hrem,if_neg (by show ¬¬(0:Int)=0;simp),if_pos (by show (0:Int) < ((w+x.length:Nat):Int);omega)]
   have:=ma s (a+w+x.length) m f out e fa (by omega) (by omega) (by omega)
   show fe s m ⟨((a+w+x.length:Nat):Int),out,e,fa⟩=fX s f (a+((w+x.length:Nat):Int).toNat) out
   rw [this,Int.toNat_natCast,Nat.add_assoc]
termination_by s.length - a
decreasing_by all_goals omega
theorem DT (s:Str):fY s=aB s:=by
 unfold fY aB
 by_cases h:4096 < s.length
 ·rw [if_pos h,if_pos h]
 ·rw [if_neg h,if_neg h]
  exact (ma s 0 (s.length+2) (s.length+2) [] 0 0 (Nat.zero_le _) (by omega) (by omega)).symm
end Go.Pd
end
section
namespace Go.Pd
open Go.AL
def AO (l:List Tokn) (a:Int):Shape × Int × Flt:=
 if (eo l a).2.err=0 then (if (dX l (eo l a).1).2.2.err=0 then dX l (eo l a).1 else (ta,0,(dX l (eo l a).1).2.2)) else (ta,0,(eo l a).2)
theorem se (l:List Tokn) (a:Int):((eo l a).2.err=0/\eo l a=(a,okF)/\aQ l a=st l a/\0<=a/\a<=(l.length:Int)/\l.length<=4097)∨(¬(eo l a).2.err=0/\aV (aQ l a)=true/\(⟨(aQ l a).err,(aQ l a).fat⟩:Flt)=(eo l a).2):=by
 unfold eo aQ
 by_cases c:a < 0∨(l.length:Int) < a
 ·rw [if_pos c,if_pos c]
  exact .inr ⟨by show ¬(2:Int)=0;decide,rfl,rfl⟩
 ·rw [if_neg c,if_neg c]
  by_cases d:4097 < l.length
  ·rw [if_pos d,if_pos d]
   exact .inr ⟨by show ¬(3:Int)=0;decide,rfl,rfl⟩
  ·rw [if_neg d,if_neg d]
   exact .inl ⟨rfl,rfl,rfl,by omega,by omega,by omega⟩
theorem J4 {f g:Flt} (h1:f.err=g.err) (h2:f.pos=g.pos):f=g:=by cases f;cases g;simp_all
theorem GM {α:Type} {z:α} {l:List Tokn} {p:α × Par} {r:α × Int × Flt} (h:Rel l p r) (hz:Zf r.2.2):pq z p=if r.2.2.err=0 then r else (z,0,r.2.2):=by
 unfold Rel at h
 by_cases e:r.2.2.err=0
 ·rw [if_pos e] at h
  rw [if_pos e,h]
  have e2:r=(r.1,r.2.1,okF):=by rw [←hz e]
  conv=>rhs;rw [e2]
  rfl
 ·rw [if_neg e] at h
  rw [if_neg e]
  unfold pq
  rw [if_pos (cG.2 (by rw [h.1];exact e))]
  rw [show (⟨p.2.err,p.2.fat⟩:Flt)=r.2.2 from J4 h.1 h.2]
theorem DU (l:List Tokn) (a:Int):AO l a=bu l a:=by
 unfold AO bu
 rcases se l a with ⟨h1,h2,h3,_⟩ | ⟨h1,h2,h3⟩
 ·rw [if_pos h1,h2,h3,if_neg (show ¬aV (st l a)=true by simp [aV]),GM (DA l a) (GK a)]
 ·rw [if_neg h1,if_pos h2,h3]
end Go.Pd
end
section
namespace Go.Pd
open Go.AL
def hX (l:List Tokn):Nat:=(l.map (fun t=>min t.text.length 100000+1)).sum
def kE (t:Tokn):Bool:=!decide (t.kind=3) || (decide (t.text.length<=15) && t.text.all cx && !decide (t.text=[]))
def lE (l:List Tokn):Bool:=decide (hX l<=100000) && l.all kE
theorem yk (l m:List Tokn):hX (l++m)=hX l+hX m:=by unfold hX;rw [List.map_append,List.sum_append]
theorem GN (t:Tokn):hX [t]=min t.text.length 100000+1:=by simp [hX]
theorem BF:∀l:List Tokn,l.length<=hX l
 | []=>Nat.zero_le _
 | x ::r=>by
  have:=BF r
  have e:hX (x ::r)=(min x.text.length 100000+1)+hX r:=by unfold hX;rw [List.map_cons,List.sum_cons]
  rw [e,List.length_cons]
  omega
theorem Ib {l:List Tokn} (h:lE l=true):l.length<=100000:=by
 unfold lE at h
 rw [Bool.and_eq_true,decide_eq_true_eq] at h
 have:=BF l
 omega
theorem yl {l:List Tokn} (h:lE l=true):dr l:=by
 unfold lE at h
 rw [Bool.and_eq_true] at h
 intro t ht hk
 have:=List.all_eq_true.1 h.2 t ht
 unfold kE at this
 rw [Xd hk,Bool.not_true,Bool.false_or,Bool.and_eq_true,Bool.and_eq_true,decide_eq_true_eq,List.all_eq_true] at this
 refine ⟨by simpa using this.2,this.1.1,fun c hc=>?_⟩
 have:=this.1.2 c hc
 unfold cx aM bI at this
 simp at this
 omega
theorem Ic {l:List Tokn} {k:Nat} (hk:k < l.length) (h:kE (l.getD k (dfl (.st .token)))=false):lE l=false:=by
 unfold lE
 rw [Bool.and_eq_false_iff]
 refine .inr ?_
 rw [Bool.eq_false_iff]
 intro e
 rw [List.all_eq_true.1 e _ (dy l k _ hk)] at h
 cases h
theorem GO {l:List Tokn} {k:Nat} (h:100000 < hX (l.take k)):lE l=false:=by
 unfold lE
 rw [Bool.and_eq_false_iff]
 refine .inl (Xf ?_)
 have:=yk (l.take k) (l.drop k)
 rw [List.take_append_drop] at this
 omega
def kB (t:Tokn):Bool:=!(decide (t.kind=1) || decide (t.kind=2)) || (decide ((aB t.text).2.err=0) && decide ((aB t.text).1.length=2) && decide (((aB t.text).1.getD 0 (dfl (.st .token))).kind=t.kind) && decide (((aB t.text).1.getD 0 (dfl (.st .token))).text=t.text))
def fk (l:List Tokn):Bool:=l.all kB
def sf (F:Str→Shape × Flt) (G:Str→Trm × Flt):Bool:=
 decide ((F [40,73,110,116,44,32,91,75,101,121,93,41,32,45,62,32,123,97,58,32,113,47,73,100,125]).2.err=0) &&
 decide ((F [40,73,110,116,44,32,91,75,101,121,93,41,32,45,62,32,123,97,58,32,113,47,73,100,125]).1.kind=8) &&
 decide ((F [40,73,110,116,44,32,91,75,101,121,93,41,32,45,62,32,123,97,58,32,113,47,73,100,125]).1.parts.length=3) &&
 decide ((F [123,97,58,32,73,110,116,44,32,97,58,32,73,110,116,125]).2.err=111) &&
 decide ((F [123,97,58,32,73,110,116,44,32,97,58,32,73,110,116,125]).2.pos=9) &&
 decide ((G [102,46,97,40,49,41]).2.err=0) &&
 decide ((G [102,46,97,40,49,41]).1.kind=7) &&
 decide ((G [102,46,97,40,49,41]).1.parts.length=2) &&
 decide (((G [102,46,97,40,49,41]).1.parts.getD 1 (dfl (.st .term))).pos=4) &&
 decide ((G [91,73,110,116]).2.err=90)
set_option maxRecDepth 100000 in
theorem AP:sf fA ox=true:=by decide+kernel
end Go.Pd
end
section
open Go Go.AL Go.Pd
namespace Go.AL.Seat
namespace C50
def A0:=(0:Int)
def B0 (l:List Tokn)(a:Int):=(dX l (eo l a).1)
end C50
open C50 in
theorem DV (l:List Tokn) (a:Int) (hl:Wf (.lst (.st .token)) l) (hN:dr l) :
  if (!decide ((eo l a).2.err=A0))=true then True/\A0=(bu l a).1.kind/\[]=(bu l a).1.pkg/\[]=(bu l a).1.name/\(bu l a).1.names=[]/\(bu l a).1.parts=[]/\A0=(bu l a).2.1/\(eo l a).2=(bu l a).2.2/\True else (List.length l<=(4097:Nat)/\dr l/\A0<=(eo l a).1/\(eo l a).1<=(↑(List.length l):Int))/\if (!decide ((B0 l a).2.2.err=A0))=true then True/\A0=(bu l a).1.kind/\[]=(bu l a).1.pkg/\[]=(bu l a).1.name/\(bu l a).1.names=[]/\(bu l a).1.parts=[]/\A0=(bu l a).2.1/\(B0 l a).2.2=(bu l a).2.2/\True else True/\(B0 l a).1=(bu l a).1/\(B0 l a).2.1=(bu l a).2.1/\(B0 l a).2.2=(bu l a).2.2/\True:=by
 delta B0 A0
 obtain ⟨G,hG⟩:∃G,G=bu l a:=⟨_,rfl⟩
 rw [←hG]
 rw [←DU] at hG
 unfold AO at hG
 rcases se l a with ⟨h1,h2,_,h3,h4,h5⟩ | ⟨h1,_⟩
 ·rw [if_pos h1] at hG
  refine a6 (fun k=>absurd h1 (by simpa using k)) (fun _=>?_)
  have e1:(eo l a).1=a:=by rw [h2]
  rw [e1] at hG ⊢
  refine ⟨⟨h5,hN,by omega,by omega⟩,a6 (fun k=>?_) (fun k=>?_)⟩
  ·have k:¬(dX l a).2.2.err=0:=by simpa using k
   rw [if_neg k] at hG
   rw [hG]
   repeat' (first | exact trivial | rfl | apply And.intro)
  ·have k:(dX l a).2.2.err=0:=by simpa using k
   rw [if_pos k] at hG
   rw [hG]
   repeat' (first | exact trivial | rfl | apply And.intro)
 ·rw [if_neg h1] at hG
  refine a6 (fun _=>?_) (fun k=>absurd (by simpa using k) h1)
  rw [hG]
  repeat' (first | exact trivial | rfl | apply And.intro)
end Go.AL.Seat
end
