/- The contracts of the functions. No condition. -/
import Derived.Test.YtdmbjejhifjhbaaGreatDoorT20
set_option linter.unusedVariables false
set_option linter.unusedSimpArgs false
set_option linter.unnecessarySimpa false
set_option linter.deprecated false
set_option linter.unusedSectionVars false
set_option maxRecDepth 100000
section
open Go Go.AL Go.Proofs Go.Shelf Go.Pd
namespace Go.AL.Seat
open Go.Proofs.Tryz
variable [Tabs]
def nn:Nat→Bool:=fun _=>false
def cf (k:Nat→Bool) (l:Nat→List (Option Nat)) (p r m:Nat→Bool) (s:Nat→List AV→List (Nat × SObj)→Option Ans):Cfg:=⟨tbl,s,k,l,p,r,m⟩
def a0:An:=⟨[],[],[]⟩
theorem g1 (k:Nat→Bool) (l:Nat→List (Option Nat)) (p r m:Nat→Bool) {s:Nat→List AV→List (Nat × SObj)→Option Ans} (hS:dS prog s) (a:An) {f:Nat} {fn:Func} (hf:Tryz.prog.funcs[f]?=some fn)
  {args:List AV} {S:List (Nat × SObj)} {A:Ans} {Q:Prop} (q:Q) (h:fwp (cf k l p r m s) a fn args S A=Q:=by kernel_rfl):aq prog f args S A:=EA (C:=cf k l p r m s) mixed Fb hS hf q h
theorem g0 {s:Nat→List AV→List (Nat × SObj)→Option Ans} (hS:dS prog s) (a:An) {f:Nat} {fn:Func} (hf:Tryz.prog.funcs[f]?=some fn)
  {args:List AV} {S:List (Nat × SObj)} {A:Ans} {Q:Prop} (q:Q) (h:fwp (cf nn (fun _=>[]) nn nn nn s) a fn args S A=Q:=by kernel_rfl):aq prog f args S A:=EA (C:=cf nn (fun _=>[]) nn nn nn s) mixed Fb hS hf q h
theorem sc {f:Nat} {g:Pat} {l:List (Nat × Pat)} (h:ac prog f g) (hl:dS prog (mm l)):dS prog (mm ((f,g) ::l)):=qK h hl
theorem sn:dS prog (mm []):=sX
theorem ee {f:Nat} {fn:Func} (h:Tryz.prog.funcs[f]?=some fn) (e:(fn.body.isNone || (fn.name == "runtime.NumGoroutine"))=false:=by kernel_rfl):ar prog f:=ar.mk' h e
variable [SeatLaid]
theorem jH:ac prog 126 (p1 (.int .u8) fun c=>.ret (.bool (bJ c))):=
 b6 (ee func126) fun c _ _=>g0 sn a0 func126 (Fj c)
theorem jI:ac prog 127 (p1 (.int .u8) fun c=>.ret (.bool (bP c))):=
 b6 (ee func127) fun c _ _=>g0 sn a0 func127 (Fk c)
theorem oy:ac prog 132 (p1 (.int .u8) fun c=>.ret (.bool (aM c))):=
 b6 (ee func132) fun c _ _=>g0 sn a0 func132 (Fl c)
theorem rv:ac prog 128 (p1 (.int .u8) fun c=>.ret (.bool (bA c))):=
 b6 (ee func128) fun c _ _=>g0 (sc jH (sc jI (sc oy sn))) a0 func128 (Hs c)
theorem zH:ac prog 181 (pf .str 126 fun s=>.ret (.bool (ew bJ s))):=
 oZ (ee func181) fun s hs _=>g0 (sc jH (sc jI (sc rv sn))) ⟨[(4,fun S0=>⟨Nat,fun k=>k<=s.length/\ew bJ s=(s.drop k).all fun c=>bA (bI c),fun k=>[(22,.int .i64 k)],fun _=>[],fun k=>s.length - k⟩)],[],[]⟩ func181 (Cv s hs)
theorem zI:ac prog 181 (pf .str 127 fun s=>.ret (.bool (ew bP s))):=
 oZ (ee func181) fun s hs _=>g0 (sc jH (sc jI (sc rv sn))) ⟨[(4,fun S0=>⟨Nat,fun k=>k<=s.length/\ew bP s=(s.drop k).all fun c=>bA (bI c),fun k=>[(22,.int .i64 k)],fun _=>[],fun k=>s.length - k⟩)],[],[]⟩ func181 (Cw s hs)
theorem xg:ac prog 129 (p1 .str fun s=>.ret (.bool (j9 s))):=
 b6 (ee func129) fun s _ _=>g0 sn a0 func129 (Ht s)
theorem lx:ac prog 130 (p1 .str fun s=>.ret (.bool (aU s))):=
 b6 (ee func130) fun s _ _=>g0 (sc zH (sc xg sn)) a0 func130 (Hu s)
theorem oz:ac prog 131 (p1 .str fun s=>.ret (.bool (cZ s))):=
 b6 (ee func131) fun s _ _=>g0 (sc zI sn) a0 func131 (Fm s)
theorem zJ:ac prog 163 (p2 (.lst .str) .str fun a v=>.ret (.int .i64 (gV a v 0))):=
 dN (ee func163) fun a v ha _ _=>g0 sn ⟨[(2,fun S0=>⟨Nat,fun k=>k<=a.length/\gV a v 0=gV (a.drop k) v k,fun k=>[(8,.int .i64 k)],fun _=>[],fun k=>a.length - k⟩)],[],[]⟩ func163 (Cx a v ha)
theorem sy:ac prog 116 (p2 (.lst .str) .str fun a v=>.ret (.bool (decide (v∈a)))):=
 dN (ee func116) fun a v _ _ _=>g0 (sc zJ sn) a0 func116 (uS a v)
theorem CW:ac prog 154 (p1 .str fun s=>.ret (.bool (lc s))):=
 b6 (ee func154) fun s _ _=>g0 sn a0 func154 (Fo s)
theorem rx:ac prog 201 (p1 (.lst .str) fun a=>⟨none,none,.fn 230 [.ptr 1 0],[(1,.box (.lst .str a none))]⟩):=
 b6 (ee func201) fun a _ _=>g0 sn a0 func201 (Cy a)
theorem CX:ac prog 153 (p1 (.st .shape) fun s=>⟨some (s.parts.length *16<=140737488355328),none,.bool (eG s),[]⟩):=
 b6 (ee func153) fun s hs ho=>g0 (sc lx (sc rx (sc (rc) (sc (pe) sn)))) ⟨[(4,fun S0=>⟨Nat,fun k=>k<=s.names.length/\s.names.length=s.parts.length/\eG s=(((s.names.drop k).all aU) && decide s.names.Nodup),fun k=>[(16,.int .i64 k)],fun _=>[],fun k=>s.names.length - k⟩)],[],[]⟩ func153 (Fp s hs (ho _ rfl))
theorem FT:ac prog 92 (p1 (.st .shape) fun s=>⟨some (s.parts.length *16<=140737488355328),none,.bool (bw s),[]⟩):=
 b6 (ee func92) fun s hs ho=>g0 (sc CX (sc oz (sc lx (sc CW sn)))) a0 func92 (Hv s hs (ho _ rfl))
theorem ry:ar prog 91:=ee func91
theorem sA (n:Nat) (s:AL.Shape) (hs:Wf (.st .shape) s) (hn:sz s<=n+1) (hb:n<=1000000) (hA:ac prog 91 (pf (.st .shape) 92 fun s=>⟨some (sz s<=n),none,.bool (allS bw s),[]⟩)):aq prog 91 [.st .shape s,.fn 92 []] [] (.ret (.bool (allS bw s))):=
 g0 (sc FT (sc (hA) sn)) ⟨[(4,fun S0=>⟨Nat,fun k=>k<=s.parts.length/\allS bw s=allL bw (s.parts.drop k),fun k=>[(14,.int .i64 k)],fun _=>[],fun k=>s.parts.length - k⟩)],[],[]⟩ func91 (zw n s hs hn hb)
theorem xh:∀n:Nat,n<=1000000→ac prog 91 (pf (.st .shape) 92 fun s=>⟨some (sz s<=n),none,.bool (allS bw s),[]⟩):=by
 intro n
 induction n with
 | zero=>exact fun _=>oZ ry fun a hs ho=>absurd (ho _ rfl) (by have:=jl a;omega)
 | succ n ih=>exact fun hb=>oZ ry fun a hs ho=>sA n a hs (ho _ rfl) (by omega) (ih (by omega))
theorem FU:ac prog 152 (uF 146):=
 z8 (ee func152) fun c hc=>g0 sn a0 func152 (Hw c hc)
theorem Bt:ar prog 151:=ee func151
theorem zK (n:Nat) (s:AL.Shape) (l c:Int) (hs:Wf (.st .shape) s) (hn:sz s<=n+1) (hc:0<=c/\c<=400/\1<=l/\l<=c+1) (hA:ac prog 151 (pJ 146 152 n)):aq prog 151 [.st .shape s,.int .i64 l,.fn 152 [.ptr 900 0]] [(900,.box (.int .i64 c))] (EG 146 s l c (sz s<=n+1)):=
 g0 (sc FU (sc (hA) sn)) ⟨[(4,fun S0=>⟨Nat × Int,fun x=>x.1<=s.parts.length/\c+1+(szL (s.parts.take x.1):Int)<=400/\deepL (s.parts.drop x.1) (l+1) x.2=deepS s l,fun x=>[(7,.int .i64 x.2),(16,.int .i64 x.1)],fun x=>[(900,.box (.int .i64 (c+1+(szL (s.parts.take x.1):Int))))],fun x=>s.parts.length - x.1⟩)],[],[]⟩ func151 (Hx n s l c hs hn hc)
theorem FV:∀n:Nat,ac prog 151 (pJ 146 152 n):=by
 intro n
 induction n with
 | zero=>exact qM Bt fun s l c hs hn hc=>absurd hn (by have:=jl s;omega)
 | succ n ih=>exact qM Bt fun s l c hs hn hc=>zK n s l c hs hn hc ih
theorem xi (s:AL.Shape) (hs:Wf (.st .shape) s) :aq prog 90 [.st .shape s] [] (.ret (.tup [.int .i64 (if sz s<=400 then (sz s:Int) else 401),.int .i64 (if sz s<=400 then deepS s 1 else 0),.bool (decide (sz s<=400))])):=
 fwpR_sound (C:=⟨tbl,_,fun _=>false,fun _=>[],fun _=>false,fun _=>false,fun _=>false⟩) (ann:=⟨[],[],[]⟩) (annC:=⟨[],[],[]⟩) mixed Fb (qK (FV (sz s)) (sX)) func90 func150 (enters_of func150 (by kernel_rfl) rfl) (@Eq.mpr _ _ (by kernel_rfl) (Fq s hs))
theorem CY:ac prog 90 (p1 (.st .shape) fun s=>.ret (.tup [.int .i64 (if sz s<=400 then (sz s:Int) else 401),.int .i64 (if sz s<=400 then deepS s 1 else 0),.bool (decide (sz s<=400))])):=
 b6 (ee func90) fun s hs _=>xi s hs
theorem tu:ac prog 46 (p1 (.st .shape) fun s=>.ret (.int .i64 (bK s))):=
 b6 (ee func46) fun s _ _=>g0 (sc (CY) (sc (xh 400 (by decide)) sn)) a0 func46 (Fs s)
theorem dQ:ac prog 29 (pP0 fun s=>⟨none,none,.bool (aV s),[(900,.box (.st .par (s)))]⟩):=
 iV (ee func29) (fun _=>rfl) (fun _=>by simp [an]) fun s ho=>g0 sn a0 func29 (IU s)
theorem fV:ac prog 33 (pP0 fun s=>⟨some (a8 s),none,.st .token (ao s),[(900,.box (.st .par (s)))]⟩):=
 iV (ee func33) (fun _=>rfl) (fun _=>by simp [an]) fun s ho=>g0 sn a0 func33 (Hy s (ho _ rfl))
theorem gZ:ac prog 36 (pP2 (.int .i64) (.int .i64) fun s e a=>⟨none,none,.tup [],[(900,.box (.st .par (cv e a s)))]⟩):=
 IH (ee func36) (fun _ _ _=>rfl) (fun _ _ _=>by simp [an]) fun s e a hwe hwa ho=>g0 (sc dQ sn) a0 func36 (Hz s e a)
theorem IZ:ac prog 115 (pP1 .str fun s t=>⟨some (a8 s),none,.bool (isF t s),[(900,.box (.st .par (s)))]⟩):=
 qO (ee func115) (fun _ _=>rfl) (fun _ _=>by simp [an]) fun s t hwt ho=>g0 (sc fV (sc dQ sn)) a0 func115 (Jk s t (ho _ rfl))
theorem fq:ac prog 59 (pP1 .str fun s t=>⟨some (a8 s),none,.bool (isF t s),[(900,.box (.st .par (bF t s)))]⟩):=
 qO (ee func59) (fun _ _=>rfl) (fun _ _=>by simp [an]) fun s t hwt ho=>g0 (sc IZ sn) a0 func59 (IV s t (ho _ rfl))
theorem dg:ac prog 58 (pP1 .str fun s t=>⟨some (a8 s),none,.tup [],[(900,.box (.st .par (aj t s)))]⟩):=
 qO (ee func58) (fun _ _=>rfl) (fun _ _=>by simp [an]) fun s t hwt ho=>g0 (sc fq (sc fV (sc gZ sn))) a0 func58 (HA s t (ho _ rfl))
theorem jJ:ac prog 63 (pP1 (.int .i64) fun s k=>⟨some (a8 s/\¬k=0),none,.st .token (aS k s).1,[(900,.box (.st .par ((aS k s).2)))]⟩):=
 qO (ee func63) (fun _ _=>rfl) (fun _ _=>by simp [an]) fun s k hwk ho=>g0 (sc fV (sc dQ (sc gZ sn))) a0 func63 (HB s k (ho _ rfl))
theorem lS:ac prog 62 (pP1 (.lst .str) fun s ns=>⟨some (a8 s),none,.str (aO ns s).1,[(900,.box (.st .par ((aO ns s).2)))]⟩):=
 qO (ee func62) (fun _ _=>rfl) (fun _ _=>by simp [an]) fun s ns hwns ho=>g0 (sc jJ (sc dQ (sc gZ (sc sy sn)))) a0 func62 (Ft s ns (ho _ rfl) hwns)
theorem CZ:ac prog 107 (p2 .str .str fun p n=>.ret (.st .shape (co p n))):=
 dN (ee func107) fun p n _ _ _=>g0 sn a0 func107 (Fu p n)
theorem FW:ar prog 106:=ee func106
theorem xj (n:Nat) (s:Par)  (ho:a8 s/\rem (aj [58] s) < n) (hS:ac prog 53 (pP0 fun s=>⟨some (a8 s/\rem s < n),none,.st .shape (ag n s).1,[(900,.box (.st .par (ag n s).2))]⟩)):aq prog 106 [.ptr 900 0] [(900,.box (.st .par s))] (⟨some (a8 s/\rem (aj [58] s) < n),none,.st .shape (ag n (aj [58] s)).1,[(900,.box (.st .par ((ag n (aj [58] s)).2)))]⟩):=
 g0 (sc dg (sc (hS) sn)) a0 func106 (Fv n s ho)
theorem D2 (n:Nat) (hS:ac prog 53 (pP0 fun s=>⟨some (a8 s/\rem s < n),none,.st .shape (ag n s).1,[(900,.box (.st .par (ag n s).2))]⟩)):ac prog 106 (pP0 fun s=>⟨some (a8 s/\rem (aj [58] s) < n),none,.st .shape (ag n (aj [58] s)).1,[(900,.box (.st .par ((ag n (aj [58] s)).2)))]⟩):=
 iV FW (fun _=>rfl) (fun _=>by simp [an]) fun s ho=>xj n s (ho _ rfl) hS
theorem D3:ar prog 105:=ee func105
theorem uU (n:Nat) (x:Shape) (s:Par) (hi:a8 s) (h0:s.err=0) (hn:rem s<=n) (hl:x.names.length+x.parts.length<=100000) (hT:ac prog 106 (pP0 fun s=>⟨some (a8 s/\rem (aj [58] s) < n),none,.st .shape (ag n (aj [58] s)).1,[(900,.box (.st .par (ag n (aj [58] s)).2))]⟩)):aq prog 105 [.ptr 900 0,.ptr 901 0] (EK x (.st .par s) x.names.length x.parts.length) (⟨some (a8 s/\s.err=0/\rem s<=n/\x.names.length=x.names.length/\x.parts.length=x.parts.length/\x.names.length+x.parts.length<=100000),none,.tup [],[(900,.box (.ptr 902 0)),(901,.box (.agg [.int .i64 ((ap (ag n) x s).1).kind,.str ((ap (ag n) x s).1).pkg,.str ((ap (ag n) x s).1).name,.lst .str ((ap (ag n) x s).1).names (some 903),.lst (.st .shape) ((ap (ag n) x s).1).parts (some 904)])),(902,.box (.st .par (ap (ag n) x s).2)),(903,.tail .str (ap (ag n) x s).1.names.length),(904,.tail (.st .shape) (ap (ag n) x s).1.parts.length)]⟩):=
 g1 nn (fun _=>[]) (fun d=>Nat.beq d 21) nn nn (sc lS (sc (hT) sn)) a0 func105 (Cz n x s hi h0 hn hl)
theorem zL (n:Nat) (hT:ac prog 106 (pP0 fun s=>⟨some (a8 s/\rem (aj [58] s) < n),none,.st .shape (ag n (aj [58] s)).1,[(900,.box (.st .par (ag n (aj [58] s)).2))]⟩)):ac prog 105 (qP fun x s m m'=>⟨some (a8 s/\s.err=0/\rem s<=n/\m=x.names.length/\m'=x.parts.length/\m+m'<=100000),none,.tup [],[(900,.box (.ptr 902 0)),(901,.box (.agg [.int .i64 ((ap (ag n) x s).1).kind,.str ((ap (ag n) x s).1).pkg,.str ((ap (ag n) x s).1).name,.lst .str ((ap (ag n) x s).1).names (some 903),.lst (.st .shape) ((ap (ag n) x s).1).parts (some 904)])),(902,.box (.st .par (ap (ag n) x s).2)),(903,.tail .str (ap (ag n) x s).1.names.length),(904,.tail (.st .shape) (ap (ag n) x s).1.parts.length)]⟩):=
 Cf D3 (fun _ _ _ _=>rfl) (fun _ _ _ _=>by simp [an]) fun x s m m' ho=>by
  obtain ⟨q1,q2,q3,q4,q5,q6⟩:=ho _ rfl
  subst q4 q5
  exact uU n x s q1 q2 q3 q6 hT
theorem FX:ar prog 108:=ee func108
theorem xk (n:Nat) (x:Shape) (s:Par) (hi:a8 s) (hn:rem s < n) (hl:x.parts.length<=100000) (hS:ac prog 53 (pP0 fun s=>⟨some (a8 s/\rem s < n),none,.st .shape (ag n s).1,[(900,.box (.st .par (ag n s).2))]⟩)):aq prog 108 [.ptr 900 0,.ptr 901 0] (Ip x (.st .par s) x.parts.length) (⟨some (a8 s/\rem s < n/\x.parts.length=x.parts.length/\x.parts.length<=100000),none,.tup [],[(900,.box (.agg [.int .i64 ((aw (ag n) x s).1).kind,.str ((aw (ag n) x s).1).pkg,.str ((aw (ag n) x s).1).name,.nils,.lst (.st .shape) ((aw (ag n) x s).1).parts (some 902)])),(901,.box (.ptr 903 0)),(902,.tail (.st .shape) (aw (ag n) x s).1.parts.length),(903,.box (.st .par (aw (ag n) x s).2))]⟩):=
 g1 nn (fun _=>[]) (fun d=>Nat.beq d 8) nn nn (sc (hS) sn) a0 func108 (Fw n x s hi hn hl)
theorem D4 (n:Nat) (hS:ac prog 53 (pP0 fun s=>⟨some (a8 s/\rem s < n),none,.st .shape (ag n s).1,[(900,.box (.st .par (ag n s).2))]⟩)):ac prog 108 (ww fun x s m=>⟨some (a8 s/\rem s < n/\m=x.parts.length/\m<=100000),none,.tup [],[(900,.box (.agg [.int .i64 ((aw (ag n) x s).1).kind,.str ((aw (ag n) x s).1).pkg,.str ((aw (ag n) x s).1).name,.nils,.lst (.st .shape) ((aw (ag n) x s).1).parts (some 902)])),(901,.box (.ptr 903 0)),(902,.tail (.st .shape) (aw (ag n) x s).1.parts.length),(903,.box (.st .par (aw (ag n) x s).2))]⟩):=
 EL FX (fun _ _ _=>rfl) (fun _ _ _=>by simp [an]) fun x s m hx ho=>by
  obtain ⟨q1,q2,q3,q4⟩:=ho _ rfl
  subst q3
  exact xk n x s q1 q2 q4 hS
theorem FY:ar prog 60:=ee func60
theorem xl (n:Nat) (b e:Str) (k:Int) (s:Par) (hi:a8 s) (hn:rem s<=n) (hC:ac prog 105 (qP fun x s m m'=>⟨some (a8 s/\s.err=0/\rem s<=n/\m=x.names.length/\m'=x.parts.length/\m+m'<=100000),none,.tup [],[(900,.box (.ptr 902 0)),(901,.box (.agg [.int .i64 ((ap (ag n) x s).1).kind,.str ((ap (ag n) x s).1).pkg,.str ((ap (ag n) x s).1).name,.lst .str ((ap (ag n) x s).1).names (some 903),.lst (.st .shape) ((ap (ag n) x s).1).parts (some 904)])),(902,.box (.st .par (ap (ag n) x s).2)),(903,.tail .str (ap (ag n) x s).1.names.length),(904,.tail (.st .shape) (ap (ag n) x s).1.parts.length)]⟩)):aq prog 60 [.ptr 900 0,.str b,.str e,.fn 105 [.ptr 901 0,.ptr 902 0]] (EM k (.st .par s)) (⟨some (a8 s/\rem s<=n),none,.tup [],[(900,.box (.st .par (ad b e (ap (ag n)) (⟨k,[],[],[],[]⟩) s).2)),(901,.box (.ptr 900 0)),(902,.box (.agg [.int .i64 ((ad b e (ap (ag n)) (⟨k,[],[],[],[]⟩) s).1).kind,.str ((ad b e (ap (ag n)) (⟨k,[],[],[],[]⟩) s).1).pkg,.str ((ad b e (ap (ag n)) (⟨k,[],[],[],[]⟩) s).1).name,.lst .str ((ad b e (ap (ag n)) (⟨k,[],[],[],[]⟩) s).1).names (some 701),.lst (.st .shape) ((ad b e (ap (ag n)) (⟨k,[],[],[],[]⟩) s).1).parts (some 702)])),(701,.tail .str (ad b e (ap (ag n)) (⟨k,[],[],[],[]⟩) s).1.names.length),(702,.tail (.st .shape) (ad b e (ap (ag n)) (⟨k,[],[],[],[]⟩) s).1.parts.length)]⟩):=
 g0 (sc fq (sc dQ (sc dg (sc (hC) sn)))) ⟨[(1,fun S0=>⟨Nat × Shape × Par,fun y=>a8 y.2.2/\rem y.2.2 < y.1/\rem y.2.2<=n/\y.2.1.names.length+y.1<=5000/\y.2.1.parts.length+y.1<=5000/\bS b e (ap (ag n)) y.1 y.2.1 y.2.2=(ad b e (ap (ag n)) (⟨k,[],[],[],[]⟩) s),fun _=>[],fun y=>[(900,.box (.st .par y.2.2)),(902,.box (.agg [.int .i64 (y.2.1).kind,.str (y.2.1).pkg,.str (y.2.1).name,.lst .str (y.2.1).names (some 701),.lst (.st .shape) (y.2.1).parts (some 702)])),(701,.tail .str y.2.1.names.length),(702,.tail (.st .shape) y.2.1.parts.length)],fun y=>y.1⟩)],[],[]⟩ func60 (Fx n b e k s hi hn)
theorem D5 (n:Nat) (hC:ac prog 105 (qP fun x s m m'=>⟨some (a8 s/\s.err=0/\rem s<=n/\m=x.names.length/\m'=x.parts.length/\m+m'<=100000),none,.tup [],[(900,.box (.ptr 902 0)),(901,.box (.agg [.int .i64 ((ap (ag n) x s).1).kind,.str ((ap (ag n) x s).1).pkg,.str ((ap (ag n) x s).1).name,.lst .str ((ap (ag n) x s).1).names (some 903),.lst (.st .shape) ((ap (ag n) x s).1).parts (some 904)])),(902,.box (.st .par (ap (ag n) x s).2)),(903,.tail .str (ap (ag n) x s).1.names.length),(904,.tail (.st .shape) (ap (ag n) x s).1.parts.length)]⟩)):ac prog 60 (uH 105 fun b e k s=>⟨some (a8 s/\rem s<=n),none,.tup [],[(900,.box (.st .par (ad b e (ap (ag n)) (⟨k,[],[],[],[]⟩) s).2)),(901,.box (.ptr 900 0)),(902,.box (.agg [.int .i64 ((ad b e (ap (ag n)) (⟨k,[],[],[],[]⟩) s).1).kind,.str ((ad b e (ap (ag n)) (⟨k,[],[],[],[]⟩) s).1).pkg,.str ((ad b e (ap (ag n)) (⟨k,[],[],[],[]⟩) s).1).name,.lst .str ((ad b e (ap (ag n)) (⟨k,[],[],[],[]⟩) s).1).names (some 701),.lst (.st .shape) ((ad b e (ap (ag n)) (⟨k,[],[],[],[]⟩) s).1).parts (some 702)])),(701,.tail .str (ad b e (ap (ag n)) (⟨k,[],[],[],[]⟩) s).1.names.length),(702,.tail (.st .shape) (ad b e (ap (ag n)) (⟨k,[],[],[],[]⟩) s).1.parts.length)]⟩):=
 Cg FY (fun _ _ _ _=>rfl) (fun _ _ _ _=>by simp [an]) fun b e k s ho=>xl n b e k s (ho _ rfl).1 (ho _ rfl).2 hC
theorem FZ:ar prog 60:=ee func60
theorem xm (n:Nat) (b e:Str) (k:Int) (s:Par) (hi:a8 s) (hn:rem s < n) (hC:ac prog 108 (ww fun x s m=>⟨some (a8 s/\rem s < n/\m=x.parts.length/\m<=100000),none,.tup [],[(900,.box (.agg [.int .i64 ((aw (ag n) x s).1).kind,.str ((aw (ag n) x s).1).pkg,.str ((aw (ag n) x s).1).name,.nils,.lst (.st .shape) ((aw (ag n) x s).1).parts (some 902)])),(901,.box (.ptr 903 0)),(902,.tail (.st .shape) (aw (ag n) x s).1.parts.length),(903,.box (.st .par (aw (ag n) x s).2))]⟩)):aq prog 60 [.ptr 900 0,.str b,.str e,.fn 108 [.ptr 901 0,.ptr 902 0]] (EN k (.st .par s)) (⟨some (a8 s/\rem s < n),none,.tup [],[(900,.box (.st .par (ad b e (aw (ag n)) (⟨k,[],[],[],[]⟩) s).2)),(901,.box (.agg [.int .i64 ((ad b e (aw (ag n)) (⟨k,[],[],[],[]⟩) s).1).kind,.str ((ad b e (aw (ag n)) (⟨k,[],[],[],[]⟩) s).1).pkg,.str ((ad b e (aw (ag n)) (⟨k,[],[],[],[]⟩) s).1).name,.nils,.lst (.st .shape) ((ad b e (aw (ag n)) (⟨k,[],[],[],[]⟩) s).1).parts (some 702)])),(902,.box (.ptr 900 0)),(702,.tail (.st .shape) (ad b e (aw (ag n)) (⟨k,[],[],[],[]⟩) s).1.parts.length)]⟩):=
 g0 (sc fq (sc dQ (sc dg (sc (hC) sn)))) ⟨[(1,fun S0=>⟨Nat × Shape × Par,fun y=>a8 y.2.2/\rem y.2.2 < y.1/\rem y.2.2 < n/\y.2.1.parts.length+y.1<=5000/\y.2.1.names=[]/\bS b e (aw (ag n)) y.1 y.2.1 y.2.2=(ad b e (aw (ag n)) (⟨k,[],[],[],[]⟩) s),fun _=>[],fun y=>[(900,.box (.st .par y.2.2)),(901,.box (.agg [.int .i64 (y.2.1).kind,.str (y.2.1).pkg,.str (y.2.1).name,.nils,.lst (.st .shape) (y.2.1).parts (some 702)])),(702,.tail (.st .shape) y.2.1.parts.length)],fun y=>y.1⟩)],[],[]⟩ func60 (Fy n b e k s hi hn)
theorem D6 (n:Nat) (hC:ac prog 108 (ww fun x s m=>⟨some (a8 s/\rem s < n/\m=x.parts.length/\m<=100000),none,.tup [],[(900,.box (.agg [.int .i64 ((aw (ag n) x s).1).kind,.str ((aw (ag n) x s).1).pkg,.str ((aw (ag n) x s).1).name,.nils,.lst (.st .shape) ((aw (ag n) x s).1).parts (some 902)])),(901,.box (.ptr 903 0)),(902,.tail (.st .shape) (aw (ag n) x s).1.parts.length),(903,.box (.st .par (aw (ag n) x s).2))]⟩)):ac prog 60 (uI 108 fun b e k s=>⟨some (a8 s/\rem s < n),none,.tup [],[(900,.box (.st .par (ad b e (aw (ag n)) (⟨k,[],[],[],[]⟩) s).2)),(901,.box (.agg [.int .i64 ((ad b e (aw (ag n)) (⟨k,[],[],[],[]⟩) s).1).kind,.str ((ad b e (aw (ag n)) (⟨k,[],[],[],[]⟩) s).1).pkg,.str ((ad b e (aw (ag n)) (⟨k,[],[],[],[]⟩) s).1).name,.nils,.lst (.st .shape) ((ad b e (aw (ag n)) (⟨k,[],[],[],[]⟩) s).1).parts (some 702)])),(902,.box (.ptr 900 0)),(702,.tail (.st .shape) (ad b e (aw (ag n)) (⟨k,[],[],[],[]⟩) s).1.parts.length)]⟩):=
 Ch FZ (fun _ _ _ _=>rfl) (fun _ _ _ _=>by simp [an]) fun b e k s ho=>xm n b e k s (ho _ rfl).1 (ho _ rfl).2 hC
theorem xn:ar prog 53:=ee func53
theorem xo (n:Nat) (s:Par) (hi:a8 s) (hn:rem s < n+1) (hS:ac prog 53 (pP0 fun s=>⟨some (a8 s/\rem s < n),none,.st .shape (ag n s).1,[(900,.box (.st .par (ag n s).2))]⟩)) (hL:ac prog 60 (uH 105 fun b e k s=>⟨some (a8 s/\rem s<=n),none,.tup [],[(900,.box (.st .par (ad b e (ap (ag n)) (⟨k,[],[],[],[]⟩) s).2)),(901,.box (.ptr 900 0)),(902,.box (.agg [.int .i64 ((ad b e (ap (ag n)) (⟨k,[],[],[],[]⟩) s).1).kind,.str ((ad b e (ap (ag n)) (⟨k,[],[],[],[]⟩) s).1).pkg,.str ((ad b e (ap (ag n)) (⟨k,[],[],[],[]⟩) s).1).name,.lst .str ((ad b e (ap (ag n)) (⟨k,[],[],[],[]⟩) s).1).names (some 701),.lst (.st .shape) ((ad b e (ap (ag n)) (⟨k,[],[],[],[]⟩) s).1).parts (some 702)])),(701,.tail .str (ad b e (ap (ag n)) (⟨k,[],[],[],[]⟩) s).1.names.length),(702,.tail (.st .shape) (ad b e (ap (ag n)) (⟨k,[],[],[],[]⟩) s).1.parts.length)]⟩)) (hM:ac prog 60 (uI 108 fun b e k s=>⟨some (a8 s/\rem s < n),none,.tup [],[(900,.box (.st .par (ad b e (aw (ag n)) (⟨k,[],[],[],[]⟩) s).2)),(901,.box (.agg [.int .i64 ((ad b e (aw (ag n)) (⟨k,[],[],[],[]⟩) s).1).kind,.str ((ad b e (aw (ag n)) (⟨k,[],[],[],[]⟩) s).1).pkg,.str ((ad b e (aw (ag n)) (⟨k,[],[],[],[]⟩) s).1).name,.nils,.lst (.st .shape) ((ad b e (aw (ag n)) (⟨k,[],[],[],[]⟩) s).1).parts (some 702)])),(902,.box (.ptr 900 0)),(702,.tail (.st .shape) (ad b e (aw (ag n)) (⟨k,[],[],[],[]⟩) s).1.parts.length)]⟩)):aq prog 53 [.ptr 900 0] [(900,.box (.st .par s))] (⟨some (a8 s/\rem s < n+1),none,.st .shape (ag (n+1) s).1,[(900,.box (.st .par (ag (n+1) s).2))]⟩):=
 g1 nn (fun _=>[]) (fun d=>Nat.beq d 129) nn nn (sc fV (sc dQ (sc dg (sc jJ (sc fq (sc gZ (sc CZ (sc (hS) (sc (hL) (sc (hM) sn)))))))))) a0 func53 (Fz n s hi hn)
theorem lT:∀n:Nat,ac prog 53 (pP0 fun s=>⟨some (a8 s/\rem s < n),none,.st .shape (ag n s).1,[(900,.box (.st .par (ag n s).2))]⟩)
 | 0=>iV xn (fun _=>rfl) (fun _=>by simp [an]) fun s ho=>absurd (ho _ rfl).2 (Nat.not_lt_zero _)
 | n+1=>iV xn (fun _=>rfl) (fun _=>by simp [an]) fun s ho=>
  xo n s (ho _ rfl).1 (ho _ rfl).2 (lT n) (D5 n (zL n (D2 n (lT n)))) (D6 n (D4 n (lT n)))
theorem jK:ac prog 30 (pP0 fun s=>⟨some (a8 s),none,.st .shape (aW s).1,[(900,.box (.st .par ((aW s).2)))]⟩):=
 iV (ee func30) (fun _=>rfl) (fun _=>by simp [an]) fun s ho=>g0 (sc fV (sc (lT big) (sc dQ (sc tu (sc gZ sn))))) a0 func30 (FA s (ho _ rfl))
theorem D7:ar prog 56:=ee func56
theorem uV (n:Nat) (x:Trm) (s:Par) (hi:a8 s) (hn:rem s < n) (zn:x.names=[]) (zv:x.vars=[]) (zs:x.shapes=[]) (zp:x.parts=[]) (hT:ac prog 34 (pP0 fun s=>⟨some (a8 s/\rem s < n),none,.st .term (a7 n s).1,[(900,.box (.st .par (a7 n s).2))]⟩)):aq prog 56 [.ptr 900 0,.ptr 901 0] (sT_ x (.st .par s)) (⟨some (a8 s/\rem s < n),none,.tup [],[(900,.box (.agg [.int .i64 x.kind,.str x.pkg,.str x.name,.int .i64 x.n,.nils,.nils,.nils,.lst (.st .term) ((x.parts++[(a7 n s).1])) (some 8),.int .i64 x.pos])),(901,.box (.ptr 902 0)),(902,.box (.st .par (a7 n s).2)),(8,.tail (.st .term) (x.parts++[(a7 n s).1]).length)]⟩):=
 g1 nn (fun _=>[]) (fun d=>Nat.beq d 8) nn nn (sc (hT) sn) a0 func56 (CA n x s hi hn zn zv zs zp)
theorem zM (n:Nat) (hT:ac prog 34 (pP0 fun s=>⟨some (a8 s/\rem s < n),none,.st .term (a7 n s).1,[(900,.box (.st .par (a7 n s).2))]⟩)):ac prog 56 (pT_ fun x s=>⟨some (a8 s/\rem s < n),none,.tup [],[(900,.box (.agg [.int .i64 x.kind,.str x.pkg,.str x.name,.int .i64 x.n,.nils,.nils,.nils,.lst (.st .term) ((x.parts++[(a7 n s).1])) (some 8),.int .i64 x.pos])),(901,.box (.ptr 902 0)),(902,.box (.st .par (a7 n s).2)),(8,.tail (.st .term) (x.parts++[(a7 n s).1]).length)]⟩):=
 II D7 (fun _ _=>rfl) (fun _ _=>by simp [an]) fun x s zn zv zs zp ho=>by
  obtain ⟨q1,q2⟩:=ho _ rfl
  exact uV n x s q1 q2 zn zv zs zp hT
theorem D8:ar prog 56:=ee func56
theorem uW (n:Nat) (x:Trm) (s:Par) (hi:a8 s) (hn:rem s < n) (zn:x.names=[]) (zv:x.vars=[]) (zs:x.shapes=[]) (hl:x.parts.length<=100000) (hT:ac prog 34 (pP0 fun s=>⟨some (a8 s/\rem s < n),none,.st .term (a7 n s).1,[(900,.box (.st .par (a7 n s).2))]⟩)):aq prog 56 [.ptr 900 0,.ptr 901 0] (IJ x (.st .par s) x.parts.length) (⟨some (a8 s/\rem s < n/\x.parts.length=x.parts.length/\x.parts.length<=100000),none,.tup [],[(900,.box (.agg [.int .i64 x.kind,.str x.pkg,.str x.name,.int .i64 x.n,.nils,.nils,.nils,.lst (.st .term) ((x.parts++[(a7 n s).1])) (some 902),.int .i64 x.pos])),(901,.box (.ptr 903 0)),(902,.tail (.st .term) (x.parts++[(a7 n s).1]).length),(903,.box (.st .par (a7 n s).2))]⟩):=
 g1 nn (fun _=>[]) (fun d=>Nat.beq d 8) nn nn (sc (hT) sn) a0 func56 (CB n x s hi hn zn zv zs hl)
theorem rz (n:Nat) (hT:ac prog 34 (pP0 fun s=>⟨some (a8 s/\rem s < n),none,.st .term (a7 n s).1,[(900,.box (.st .par (a7 n s).2))]⟩)):ac prog 56 (uJ fun x s mp=>⟨some (a8 s/\rem s < n/\mp=x.parts.length/\mp<=100000),none,.tup [],[(900,.box (.agg [.int .i64 x.kind,.str x.pkg,.str x.name,.int .i64 x.n,.nils,.nils,.nils,.lst (.st .term) ((x.parts++[(a7 n s).1])) (some 902),.int .i64 x.pos])),(901,.box (.ptr 903 0)),(902,.tail (.st .term) (x.parts++[(a7 n s).1]).length),(903,.box (.st .par (a7 n s).2))]⟩):=
 Bj D8 (fun _ _ _=>rfl) (fun _ _ _=>by simp [an]) fun x s mp zn zv zs ho=>by
  obtain ⟨q1,q2,ep,ql⟩:=ho _ rfl
  subst ep
  exact uW n x s q1 q2 zn zv zs ql hT
theorem zN:ar prog 56:=ee func56
theorem sB (n:Nat) (x:Trm) (s:Par) (hi:a8 s) (hn:rem s < n) (zv:x.vars=[]) (zp:x.parts=[]) (hl:x.names.length+x.shapes.length<=100000) (hT:ac prog 34 (pP0 fun s=>⟨some (a8 s/\rem s < n),none,.st .term (a7 n s).1,[(900,.box (.st .par (a7 n s).2))]⟩)):aq prog 56 [.ptr 900 0,.ptr 901 0] (Iq x (.st .par s) x.names.length x.shapes.length) (⟨some (a8 s/\rem s < n/\x.names.length=x.names.length/\x.shapes.length=x.shapes.length/\x.names.length+x.shapes.length<=100000),none,.tup [],[(900,.box (.agg [.int .i64 x.kind,.str x.pkg,.str x.name,.int .i64 x.n,.lst .str (x.names) (some 902),.nils,.lst (.st .shape) (x.shapes) (some 903),.lst (.st .term) ((x.parts++[(a7 n s).1])) (some 8),.int .i64 x.pos])),(901,.box (.ptr 904 0)),(902,.tail .str x.names.length),(903,.tail (.st .shape) x.shapes.length),(904,.box (.st .par (a7 n s).2)),(8,.tail (.st .term) (x.parts++[(a7 n s).1]).length)]⟩):=
 g1 nn (fun _=>[]) (fun d=>Nat.beq d 8) nn nn (sc (hT) sn) a0 func56 (zx n x s hi hn zv zp hl)
theorem xp (n:Nat) (hT:ac prog 34 (pP0 fun s=>⟨some (a8 s/\rem s < n),none,.st .term (a7 n s).1,[(900,.box (.st .par (a7 n s).2))]⟩)):ac prog 56 (Bk fun x s mn ms=>⟨some (a8 s/\rem s < n/\mn=x.names.length/\ms=x.shapes.length/\mn+ms<=100000),none,.tup [],[(900,.box (.agg [.int .i64 x.kind,.str x.pkg,.str x.name,.int .i64 x.n,.lst .str (x.names) (some 902),.nils,.lst (.st .shape) (x.shapes) (some 903),.lst (.st .term) ((x.parts++[(a7 n s).1])) (some 8),.int .i64 x.pos])),(901,.box (.ptr 904 0)),(902,.tail .str x.names.length),(903,.tail (.st .shape) x.shapes.length),(904,.box (.st .par (a7 n s).2)),(8,.tail (.st .term) (x.parts++[(a7 n s).1]).length)]⟩):=
 EO zN (fun _ _ _ _=>rfl) (fun _ _ _ _=>by simp [an]) fun x s mn ms zv zp ho=>by
  obtain ⟨q1,q2,en,es,ql⟩:=ho _ rfl
  subst en
  subst es
  exact sB n x s q1 q2 zv zp ql hT
theorem uX:ar prog 56:=ee func56
theorem pz (n:Nat) (x:Trm) (s:Par) (hi:a8 s) (hn:rem s < n) (hl:x.names.length+x.vars.length+x.shapes.length+x.parts.length<=100000) (hT:ac prog 34 (pP0 fun s=>⟨some (a8 s/\rem s < n),none,.st .term (a7 n s).1,[(900,.box (.st .par (a7 n s).2))]⟩)):aq prog 56 [.ptr 900 0,.ptr 901 0] (Bl x (.st .par s) x.names.length x.vars.length x.shapes.length x.parts.length) (⟨some (a8 s/\rem s < n/\x.names.length=x.names.length/\x.vars.length=x.vars.length/\x.shapes.length=x.shapes.length/\x.parts.length=x.parts.length/\x.names.length+x.vars.length+x.shapes.length+x.parts.length<=100000),none,.tup [],[(900,.box (.agg [.int .i64 x.kind,.str x.pkg,.str x.name,.int .i64 x.n,.lst .str (x.names) (some 902),.lst .str (x.vars) (some 903),.lst (.st .shape) (x.shapes) (some 904),.lst (.st .term) ((x.parts++[(a7 n s).1])) (some 905),.int .i64 x.pos])),(901,.box (.ptr 906 0)),(902,.tail .str x.names.length),(903,.tail .str x.vars.length),(904,.tail (.st .shape) x.shapes.length),(905,.tail (.st .term) (x.parts++[(a7 n s).1]).length),(906,.box (.st .par (a7 n s).2))]⟩):=
 g1 nn (fun _=>[]) (fun d=>Nat.beq d 8) nn nn (sc (hT) sn) a0 func56 (uT n x s hi hn hl)
theorem sC (n:Nat) (hT:ac prog 34 (pP0 fun s=>⟨some (a8 s/\rem s < n),none,.st .term (a7 n s).1,[(900,.box (.st .par (a7 n s).2))]⟩)):ac prog 56 (nz fun x s mn mv ms mp=>⟨some (a8 s/\rem s < n/\mn=x.names.length/\mv=x.vars.length/\ms=x.shapes.length/\mp=x.parts.length/\mn+mv+ms+mp<=100000),none,.tup [],[(900,.box (.agg [.int .i64 x.kind,.str x.pkg,.str x.name,.int .i64 x.n,.lst .str (x.names) (some 902),.lst .str (x.vars) (some 903),.lst (.st .shape) (x.shapes) (some 904),.lst (.st .term) ((x.parts++[(a7 n s).1])) (some 905),.int .i64 x.pos])),(901,.box (.ptr 906 0)),(902,.tail .str x.names.length),(903,.tail .str x.vars.length),(904,.tail (.st .shape) x.shapes.length),(905,.tail (.st .term) (x.parts++[(a7 n s).1]).length),(906,.box (.st .par (a7 n s).2))]⟩):=
 zd uX (fun _ _ _ _ _ _=>rfl) (fun _ _ _ _ _ _=>by simp [an]) fun x s mn mv ms mp _ ho=>by
  obtain ⟨q1,q2,en,ev,es,ep,ql⟩:=ho _ rfl
  subst en
  subst ev
  subst es
  subst ep
  exact pz n x s q1 q2 ql hT
theorem D9:ar prog 118:=ee func118
theorem uY (n:Nat) (x:Trm) (s:Par) (hi:a8 s) (hn:rem s < n) (zn:x.names=[]) (zv:x.vars=[]) (zs:x.shapes=[]) (hl:x.parts.length<=100000) (hT:ac prog 34 (pP0 fun s=>⟨some (a8 s/\rem s < n),none,.st .term (a7 n s).1,[(900,.box (.st .par (a7 n s).2))]⟩)):aq prog 118 [.ptr 900 0,.ptr 901 0] (IJ x (.st .par s) x.parts.length) (⟨some (a8 s/\rem s < n/\x.parts.length=x.parts.length/\x.parts.length<=100000),none,.tup [],[(900,.box (.agg [.int .i64 x.kind,.str x.pkg,.str x.name,.int .i64 x.n,.nils,.nils,.nils,.lst (.st .term) ((x.parts++[(a7 n s).1])) (some 902),.int .i64 x.pos])),(901,.box (.ptr 903 0)),(902,.tail (.st .term) (x.parts++[(a7 n s).1]).length),(903,.box (.st .par (a7 n s).2))]⟩):=
 g1 nn (fun _=>[]) (fun d=>Nat.beq d 8) nn nn (sc (hT) sn) a0 func118 (CC n x s hi hn zn zv zs hl)
theorem zO (n:Nat) (hT:ac prog 34 (pP0 fun s=>⟨some (a8 s/\rem s < n),none,.st .term (a7 n s).1,[(900,.box (.st .par (a7 n s).2))]⟩)):ac prog 118 (uJ fun x s mp=>⟨some (a8 s/\rem s < n/\mp=x.parts.length/\mp<=100000),none,.tup [],[(900,.box (.agg [.int .i64 x.kind,.str x.pkg,.str x.name,.int .i64 x.n,.nils,.nils,.nils,.lst (.st .term) ((x.parts++[(a7 n s).1])) (some 902),.int .i64 x.pos])),(901,.box (.ptr 903 0)),(902,.tail (.st .term) (x.parts++[(a7 n s).1]).length),(903,.box (.st .par (a7 n s).2))]⟩):=
 Bj D9 (fun _ _ _=>rfl) (fun _ _ _=>by simp [an]) fun x s mp zn zv zs ho=>by
  obtain ⟨q1,q2,ep,ql⟩:=ho _ rfl
  subst ep
  exact uY n x s q1 q2 zn zv zs ql hT
theorem rA:ac prog 57 (EQ fun x a s mn ms=>⟨some (a8 s/\mn=x.names.length/\ms=x.shapes.length/\mn+ms<=100000),none,.tup [],[(900,.box (.ptr 902 0)),(901,.box (.agg [.int .i64 x.kind,.str x.pkg,.str x.name,.int .i64 x.n,.lst .str (x.names) (some 903),.nils,.lst (.st .shape) ((x.shapes++[(aW (aj a s)).1])) (some 904),.nils,.int .i64 x.pos])),(902,.box (.st .par (aW (aj a s)).2)),(903,.tail .str x.names.length),(904,.tail (.st .shape) (x.shapes++[(aW (aj a s)).1]).length)]⟩):=
 ER (ee func57) (fun _ _ _ _ _=>rfl) (fun _ _ _ _ _=>by simp [an]) fun x a s mn ms zv zp ho=>by
  obtain ⟨q1,en,es,ql⟩:=ho _ rfl
  subst en
  subst es
  exact g1 nn (fun _=>[]) (fun d=>Nat.beq d 15) nn nn (sc dg (sc jK sn)) a0 func57 (CD x a s q1 zv zp ql)
theorem Da:ac prog 57 (IK fun x a s mp=>⟨some (a8 s/\mp=x.parts.length/\mp<=100000),none,.tup [],[(900,.box (.ptr 902 0)),(901,.box (.agg [.int .i64 x.kind,.str x.pkg,.str x.name,.int .i64 x.n,.nils,.nils,.lst (.st .shape) ((x.shapes++[(aW (aj a s)).1])) (some 15),.lst (.st .term) (x.parts) (some 903),.int .i64 x.pos])),(902,.box (.st .par (aW (aj a s)).2)),(903,.tail (.st .term) x.parts.length),(15,.tail (.st .shape) (x.shapes++[(aW (aj a s)).1]).length)]⟩):=
 Hi (ee func57) (fun _ _ _ _=>rfl) (fun _ _ _ _=>by simp [an]) fun x a s mp zn zv zs ho=>by
  obtain ⟨q1,ep,ql⟩:=ho _ rfl
  subst ep
  exact g1 nn (fun _=>[]) (fun d=>Nat.beq d 15) nn nn (sc dg (sc jK sn)) a0 func57 (FB x a s q1 zn zv zs ql)
theorem nE:ac prog 57 (uK fun x a s mn mv ms mp=>⟨some (a8 s/\mn=x.names.length/\mv=x.vars.length/\ms=x.shapes.length/\mp=x.parts.length/\mn+mv+ms+mp<=100000),none,.tup [],[(900,.box (.ptr 902 0)),(901,.box (.agg [.int .i64 x.kind,.str x.pkg,.str x.name,.int .i64 x.n,.lst .str (x.names) (some 903),.lst .str (x.vars) (some 904),.lst (.st .shape) ((x.shapes++[(aW (aj a s)).1])) (some 905),.lst (.st .term) (x.parts) (some 906),.int .i64 x.pos])),(902,.box (.st .par (aW (aj a s)).2)),(903,.tail .str x.names.length),(904,.tail .str x.vars.length),(905,.tail (.st .shape) (x.shapes++[(aW (aj a s)).1]).length),(906,.tail (.st .term) x.parts.length)]⟩):=
 ze (ee func57) (fun _ _ _ _ _ _ _=>rfl) (fun _ _ _ _ _ _ _=>by simp [an]) fun x a s mn mv ms mp _ ho=>by
  obtain ⟨q1,en,ev,es,ep,ql⟩:=ho _ rfl
  subst en
  subst ev
  subst es
  subst ep
  exact g1 nn (fun _=>[]) (fun d=>Nat.beq d 15) nn nn (sc dg (sc jK sn)) a0 func57 (wX x a s q1 ql)
theorem G0:ar prog 165:=ee func165
theorem xq (n:Nat) (x:Trm) (s:Par) (hi:a8 s) (h0:s.err=0) (hn:rem s<=n) (zv:x.vars=[]) (zs:x.shapes=[]) (hl:x.names.length+x.parts.length<=100000) (hT:ac prog 34 (pP0 fun s=>⟨some (a8 s/\rem s < n),none,.st .term (a7 n s).1,[(900,.box (.st .par (a7 n s).2))]⟩)):aq prog 165 [.ptr 900 0,.ptr 901 0] (Ir x (.st .par s) x.names.length x.parts.length) (⟨some (a8 s/\s.err=0/\rem s<=n/\x.names.length=x.names.length/\x.parts.length=x.parts.length/\x.names.length+x.parts.length<=100000),none,.tup [],[(900,.box (.agg [.int .i64 ((ah (a7 n) x s).1).kind,.str ((ah (a7 n) x s).1).pkg,.str ((ah (a7 n) x s).1).name,.int .i64 ((ah (a7 n) x s).1).n,.lst .str ((ah (a7 n) x s).1).names (some 902),.nils,.nils,.lst (.st .term) ((ah (a7 n) x s).1).parts (some 903),.int .i64 ((ah (a7 n) x s).1).pos])),(901,.box (.ptr 904 0)),(902,.tail .str (ah (a7 n) x s).1.names.length),(903,.tail (.st .term) (ah (a7 n) x s).1.parts.length),(904,.box (.st .par (ah (a7 n) x s).2))]⟩):=
 g1 nn (fun _=>[]) (fun d=>Nat.beq d 23) nn nn (sc lS (sc dg (sc (hT) sn))) a0 func165 (FC n x s hi h0 hn zv zs hl)
theorem Db (n:Nat) (hT:ac prog 34 (pP0 fun s=>⟨some (a8 s/\rem s < n),none,.st .term (a7 n s).1,[(900,.box (.st .par (a7 n s).2))]⟩)):ac prog 165 (wB fun x s mn mp=>⟨some (a8 s/\s.err=0/\rem s<=n/\mn=x.names.length/\mp=x.parts.length/\mn+mp<=100000),none,.tup [],[(900,.box (.agg [.int .i64 ((ah (a7 n) x s).1).kind,.str ((ah (a7 n) x s).1).pkg,.str ((ah (a7 n) x s).1).name,.int .i64 ((ah (a7 n) x s).1).n,.lst .str ((ah (a7 n) x s).1).names (some 902),.nils,.nils,.lst (.st .term) ((ah (a7 n) x s).1).parts (some 903),.int .i64 ((ah (a7 n) x s).1).pos])),(901,.box (.ptr 904 0)),(902,.tail .str (ah (a7 n) x s).1.names.length),(903,.tail (.st .term) (ah (a7 n) x s).1.parts.length),(904,.box (.st .par (ah (a7 n) x s).2))]⟩):=
 EP G0 (fun _ _ _ _=>rfl) (fun _ _ _ _=>by simp [an]) fun x s mn mp zv zs ho=>by
  obtain ⟨q1,q2,q3,en,ep,ql⟩:=ho _ rfl
  subst en
  subst ep
  exact xq n x s q1 q2 q3 zv zs ql hT
theorem HN:ac prog 61 (IL 57 fun x s mn ms=>⟨some (a8 s/\mn=x.names.length/\ms=x.shapes.length/\mn+ms<=90000),none,.tup [],[(900,.box (.agg [.int .i64 ((ay x s).1).kind,.str ((ay x s).1).pkg,.str ((ay x s).1).name,.int .i64 ((ay x s).1).n,.lst .str ((ay x s).1).names (some 903),.nils,.lst (.st .shape) ((ay x s).1).shapes (some 904),.nils,.int .i64 ((ay x s).1).pos])),(901,.box (.ptr 905 0)),(902,.box (.fn 57 [.ptr 901 0,.ptr 900 0])),(903,.tail .str (ay x s).1.names.length),(904,.tail (.st .shape) (ay x s).1.shapes.length),(905,.box (.st .par (ay x s).2))]⟩):=
 Hk (ee func61) (fun _ _ _ _=>rfl) (fun _ _ _ _=>by simp [an]) fun x s mn ms zv zp ho=>by
  obtain ⟨q1,en,es,ql⟩:=ho _ rfl
  subst en
  subst es
  exact g0 (sc lS (sc rA sn)) a0 func61 (IW x s q1 zv zp ql)
theorem J2:ar prog 64:=ee func64
theorem Dc (n:Nat) (x:Trm) (s:Par) (hi:a8 s) (h0:s.err=0) (hn:rem s<=n) (hl:x.names.length+x.vars.length+x.shapes.length+x.parts.length<=90000) (hP:ac prog 56 (nz fun x s mn mv ms mp=>⟨some (a8 s/\rem s < n/\mn=x.names.length/\mv=x.vars.length/\ms=x.shapes.length/\mp=x.parts.length/\mn+mv+ms+mp<=100000),none,.tup [],[(900,.box (.agg [.int .i64 x.kind,.str x.pkg,.str x.name,.int .i64 x.n,.lst .str (x.names) (some 902),.lst .str (x.vars) (some 903),.lst (.st .shape) (x.shapes) (some 904),.lst (.st .term) ((x.parts++[(a7 n s).1])) (some 905),.int .i64 x.pos])),(901,.box (.ptr 906 0)),(902,.tail .str x.names.length),(903,.tail .str x.vars.length),(904,.tail (.st .shape) x.shapes.length),(905,.tail (.st .term) (x.parts++[(a7 n s).1]).length),(906,.box (.st .par (a7 n s).2))]⟩)):aq prog 64 [.ptr 900 0,.ptr 901 0,.ptr 902 0,.ptr 903 0] (sWay 57 56 x (.st .par s) x.names.length x.vars.length x.shapes.length x.parts.length) (⟨some (a8 s/\s.err=0/\rem s<=n/\x.names.length=x.names.length/\x.vars.length=x.vars.length/\x.shapes.length=x.shapes.length/\x.parts.length=x.parts.length/\x.names.length+x.vars.length+x.shapes.length+x.parts.length<=90000),none,.tup [],[(900,.box (.agg [.int .i64 ((am (a7 n) x s).1).kind,.str ((am (a7 n) x s).1).pkg,.str ((am (a7 n) x s).1).name,.int .i64 ((am (a7 n) x s).1).n,.lst .str ((am (a7 n) x s).1).names (some 904),.lst .str ((am (a7 n) x s).1).vars (some 905),.lst (.st .shape) ((am (a7 n) x s).1).shapes (some 906),.lst (.st .term) ((am (a7 n) x s).1).parts (some 907),.int .i64 ((am (a7 n) x s).1).pos])),(901,.box (.ptr 908 0)),(902,.box (.fn 57 [.ptr 901 0,.ptr 900 0])),(903,.box (.fn 56 [.ptr 900 0,.ptr 901 0])),(904,.tail .str (am (a7 n) x s).1.names.length),(905,.tail .str (am (a7 n) x s).1.vars.length),(906,.tail (.st .shape) (am (a7 n) x s).1.shapes.length),(907,.tail (.st .term) (am (a7 n) x s).1.parts.length),(908,.box (.st .par (am (a7 n) x s).2))]⟩):=
 g0 (sc lS (sc dg (sc jJ (sc nE (sc (hP) sn))))) a0 func64 (IX n x s hi h0 hn hl)
theorem HO (n:Nat) (hP:ac prog 56 (nz fun x s mn mv ms mp=>⟨some (a8 s/\rem s < n/\mn=x.names.length/\mv=x.vars.length/\ms=x.shapes.length/\mp=x.parts.length/\mn+mv+ms+mp<=100000),none,.tup [],[(900,.box (.agg [.int .i64 x.kind,.str x.pkg,.str x.name,.int .i64 x.n,.lst .str (x.names) (some 902),.lst .str (x.vars) (some 903),.lst (.st .shape) (x.shapes) (some 904),.lst (.st .term) ((x.parts++[(a7 n s).1])) (some 905),.int .i64 x.pos])),(901,.box (.ptr 906 0)),(902,.tail .str x.names.length),(903,.tail .str x.vars.length),(904,.tail (.st .shape) x.shapes.length),(905,.tail (.st .term) (x.parts++[(a7 n s).1]).length),(906,.box (.st .par (a7 n s).2))]⟩)):ac prog 64 (ES 57 56 fun x s mn mv ms mp=>⟨some (a8 s/\s.err=0/\rem s<=n/\mn=x.names.length/\mv=x.vars.length/\ms=x.shapes.length/\mp=x.parts.length/\mn+mv+ms+mp<=90000),none,.tup [],[(900,.box (.agg [.int .i64 ((am (a7 n) x s).1).kind,.str ((am (a7 n) x s).1).pkg,.str ((am (a7 n) x s).1).name,.int .i64 ((am (a7 n) x s).1).n,.lst .str ((am (a7 n) x s).1).names (some 904),.lst .str ((am (a7 n) x s).1).vars (some 905),.lst (.st .shape) ((am (a7 n) x s).1).shapes (some 906),.lst (.st .term) ((am (a7 n) x s).1).parts (some 907),.int .i64 ((am (a7 n) x s).1).pos])),(901,.box (.ptr 908 0)),(902,.box (.fn 57 [.ptr 901 0,.ptr 900 0])),(903,.box (.fn 56 [.ptr 900 0,.ptr 901 0])),(904,.tail .str (am (a7 n) x s).1.names.length),(905,.tail .str (am (a7 n) x s).1.vars.length),(906,.tail (.st .shape) (am (a7 n) x s).1.shapes.length),(907,.tail (.st .term) (am (a7 n) x s).1.parts.length),(908,.box (.st .par (am (a7 n) x s).2))]⟩):=
 Hl J2 (fun _ _ _ _ _ _=>rfl) (fun _ _ _ _ _ _=>by simp [an]) fun x s mn mv ms mp _ ho=>by
  obtain ⟨q1,q2,q3,en,ev,es,ep,ql⟩:=ho _ rfl
  subst en
  subst ev
  subst es
  subst ep
  exact Dc n x s q1 q2 q3 ql hP
theorem G1:ar prog 166:=ee func166
theorem xr (n:Nat) (s:Par)  (ho:a8 s/\rem (aj [40] s) < n) (hT:ac prog 34 (pP0 fun s=>⟨some (a8 s/\rem s < n),none,.st .term (a7 n s).1,[(900,.box (.st .par (a7 n s).2))]⟩)):aq prog 166 [.ptr 900 0] [(900,.box (.st .par s))] (⟨some (a8 s/\rem (aj [40] s) < n),none,.lst (.st .term) (dj (a7 n) s).1 none,[(900,.box (.st .par ((dj (a7 n) s).2)))]⟩):=
 g0 (sc dg (sc (hT) sn)) a0 func166 (FD n s ho)
theorem Dd (n:Nat) (hT:ac prog 34 (pP0 fun s=>⟨some (a8 s/\rem s < n),none,.st .term (a7 n s).1,[(900,.box (.st .par (a7 n s).2))]⟩)):ac prog 166 (pP0 fun s=>⟨some (a8 s/\rem (aj [40] s) < n),none,.lst (.st .term) (dj (a7 n) s).1 none,[(900,.box (.st .par ((dj (a7 n) s).2)))]⟩):=
 iV G1 (fun _=>rfl) (fun _=>by simp [an]) fun s ho=>xr n s (ho _ rfl) hT
theorem HP:ar prog 60:=ee func60
theorem zP (n:Nat) (k pp z:Int) (g q:Str) (b e:Str) (s:Par) (hi:a8 s) (hn:rem s<=n) :aq prog 60 [.ptr 900 0,.str b,.str e,.fn 61 [.ptr 901 0,.ptr 902 0,.ptr 903 0]] (Is 61 57 (⟨k,g,q,z,[],[],[],[],pp⟩:Trm) (.st .par s)) (⟨some (a8 s/\rem s<=n),none,.tup [],[(900,.box (.st .par (ad b e (ay) ⟨k,g,q,z,[],[],[],[],pp⟩ s).2)),(901,.box (.agg [.int .i64 ((ad b e (ay) ⟨k,g,q,z,[],[],[],[],pp⟩ s).1).kind,.str ((ad b e (ay) ⟨k,g,q,z,[],[],[],[],pp⟩ s).1).pkg,.str ((ad b e (ay) ⟨k,g,q,z,[],[],[],[],pp⟩ s).1).name,.int .i64 ((ad b e (ay) ⟨k,g,q,z,[],[],[],[],pp⟩ s).1).n,.lst .str ((ad b e (ay) ⟨k,g,q,z,[],[],[],[],pp⟩ s).1).names (some 701),.nils,.lst (.st .shape) ((ad b e (ay) ⟨k,g,q,z,[],[],[],[],pp⟩ s).1).shapes (some 702),.nils,.int .i64 ((ad b e (ay) ⟨k,g,q,z,[],[],[],[],pp⟩ s).1).pos])),(902,.box (.ptr 900 0)),(903,.box (.fn 57 [.ptr 902 0,.ptr 901 0])),(701,.tail .str (ad b e (ay) ⟨k,g,q,z,[],[],[],[],pp⟩ s).1.names.length),(702,.tail (.st .shape) (ad b e (ay) ⟨k,g,q,z,[],[],[],[],pp⟩ s).1.shapes.length)]⟩):=
 g0 (sc fq (sc dQ (sc dg (sc (HN) sn)))) ⟨[(1,fun S0=>⟨Nat × Trm × Par,fun y=>a8 y.2.2/\rem y.2.2 < y.1/\rem y.2.2<=n/\y.2.1.names.length+y.1<=5000/\y.2.1.shapes.length+y.1<=5000/\y.2.1.vars=[]/\y.2.1.parts=[]/\bS b e (ay) y.1 y.2.1 y.2.2=(ad b e (ay) ⟨k,g,q,z,[],[],[],[],pp⟩ s),fun _=>[],fun y=>[(900,.box (.st .par y.2.2)),(901,.box (.agg [.int .i64 (y.2.1).kind,.str (y.2.1).pkg,.str (y.2.1).name,.int .i64 (y.2.1).n,.lst .str (y.2.1).names (some 701),.nils,.lst (.st .shape) (y.2.1).shapes (some 702),.nils,.int .i64 (y.2.1).pos])),(701,.tail .str y.2.1.names.length),(702,.tail (.st .shape) y.2.1.shapes.length)],fun y=>y.1⟩)],[],[]⟩ func60 (HC n k pp z g q b e s hi hn)
theorem G2 (n:Nat) :ac prog 60 (Bm 61 57 fun x b e s=>⟨some (a8 s/\rem s<=n),none,.tup [],[(900,.box (.st .par (ad b e (ay) x s).2)),(901,.box (.agg [.int .i64 ((ad b e (ay) x s).1).kind,.str ((ad b e (ay) x s).1).pkg,.str ((ad b e (ay) x s).1).name,.int .i64 ((ad b e (ay) x s).1).n,.lst .str ((ad b e (ay) x s).1).names (some 701),.nils,.lst (.st .shape) ((ad b e (ay) x s).1).shapes (some 702),.nils,.int .i64 ((ad b e (ay) x s).1).pos])),(902,.box (.ptr 900 0)),(903,.box (.fn 57 [.ptr 902 0,.ptr 901 0])),(701,.tail .str (ad b e (ay) x s).1.names.length),(702,.tail (.st .shape) (ad b e (ay) x s).1.shapes.length)]⟩):=
 ET HP (fun _ _ _ _=>rfl) (fun _ _ _ _=>by simp [an]) fun x b e s zn zv zs zp ho=>by
  obtain ⟨k,g,q,z,ns,vs,ss,us,pp⟩:=x
  simp only at zn zv zs zp
  obtain ⟨q1,q2⟩:=ho _ rfl
  subst zn zv zs zp
  exact zP n k pp z g q b e s q1 q2
theorem HQ:ar prog 60:=ee func60
theorem zQ (n:Nat) (k pp z:Int) (g q:Str) (us:List Trm) (b e:Str) (s:Par) (hi:a8 s) (hn:rem s<=n) (hu:us.length<=1) (hC:ac prog 64 (ES 57 56 fun x s mn mv ms mp=>⟨some (a8 s/\s.err=0/\rem s<=n/\mn=x.names.length/\mv=x.vars.length/\ms=x.shapes.length/\mp=x.parts.length/\mn+mv+ms+mp<=90000),none,.tup [],[(900,.box (.agg [.int .i64 ((am (a7 n) x s).1).kind,.str ((am (a7 n) x s).1).pkg,.str ((am (a7 n) x s).1).name,.int .i64 ((am (a7 n) x s).1).n,.lst .str ((am (a7 n) x s).1).names (some 904),.lst .str ((am (a7 n) x s).1).vars (some 905),.lst (.st .shape) ((am (a7 n) x s).1).shapes (some 906),.lst (.st .term) ((am (a7 n) x s).1).parts (some 907),.int .i64 ((am (a7 n) x s).1).pos])),(901,.box (.ptr 908 0)),(902,.box (.fn 57 [.ptr 901 0,.ptr 900 0])),(903,.box (.fn 56 [.ptr 900 0,.ptr 901 0])),(904,.tail .str (am (a7 n) x s).1.names.length),(905,.tail .str (am (a7 n) x s).1.vars.length),(906,.tail (.st .shape) (am (a7 n) x s).1.shapes.length),(907,.tail (.st .term) (am (a7 n) x s).1.parts.length),(908,.box (.st .par (am (a7 n) x s).2))]⟩)):aq prog 60 [.ptr 900 0,.str b,.str e,.fn 64 [.ptr 901 0,.ptr 902 0,.ptr 903 0,.ptr 904 0]] (It 64 57 56 (⟨k,g,q,z,[],[],[],us,pp⟩:Trm) (.st .par s) us.length) (⟨some (a8 s/\rem s<=n/\us.length=us.length/\us.length<=1),none,.tup [],[(900,.box (.st .par (ad b e (am (a7 n)) ⟨k,g,q,z,[],[],[],us,pp⟩ s).2)),(901,.box (.agg [.int .i64 ((ad b e (am (a7 n)) ⟨k,g,q,z,[],[],[],us,pp⟩ s).1).kind,.str ((ad b e (am (a7 n)) ⟨k,g,q,z,[],[],[],us,pp⟩ s).1).pkg,.str ((ad b e (am (a7 n)) ⟨k,g,q,z,[],[],[],us,pp⟩ s).1).name,.int .i64 ((ad b e (am (a7 n)) ⟨k,g,q,z,[],[],[],us,pp⟩ s).1).n,.lst .str ((ad b e (am (a7 n)) ⟨k,g,q,z,[],[],[],us,pp⟩ s).1).names (some 701),.lst .str ((ad b e (am (a7 n)) ⟨k,g,q,z,[],[],[],us,pp⟩ s).1).vars (some 702),.lst (.st .shape) ((ad b e (am (a7 n)) ⟨k,g,q,z,[],[],[],us,pp⟩ s).1).shapes (some 703),.lst (.st .term) ((ad b e (am (a7 n)) ⟨k,g,q,z,[],[],[],us,pp⟩ s).1).parts (some 905),.int .i64 ((ad b e (am (a7 n)) ⟨k,g,q,z,[],[],[],us,pp⟩ s).1).pos])),(902,.box (.ptr 900 0)),(903,.box (.fn 57 [.ptr 902 0,.ptr 901 0])),(904,.box (.fn 56 [.ptr 901 0,.ptr 902 0])),(701,.tail .str (ad b e (am (a7 n)) ⟨k,g,q,z,[],[],[],us,pp⟩ s).1.names.length),(702,.tail .str (ad b e (am (a7 n)) ⟨k,g,q,z,[],[],[],us,pp⟩ s).1.vars.length),(703,.tail (.st .shape) (ad b e (am (a7 n)) ⟨k,g,q,z,[],[],[],us,pp⟩ s).1.shapes.length),(905,.tail (.st .term) (ad b e (am (a7 n)) ⟨k,g,q,z,[],[],[],us,pp⟩ s).1.parts.length)]⟩):=
 g0 (sc fq (sc dQ (sc dg (sc (hC) sn)))) ⟨[(1,fun S0=>⟨Nat × Trm × Par,fun y=>a8 y.2.2/\rem y.2.2 < y.1/\rem y.2.2<=n/\y.2.1.names.length+y.1<=5000/\y.2.1.vars.length+y.1<=5000/\y.2.1.shapes.length+y.1<=5000/\y.2.1.parts.length+y.1<=5000/\bS b e (am (a7 n)) y.1 y.2.1 y.2.2=(ad b e (am (a7 n)) ⟨k,g,q,z,[],[],[],us,pp⟩ s),fun _=>[],fun y=>[(900,.box (.st .par y.2.2)),(901,.box (.agg [.int .i64 (y.2.1).kind,.str (y.2.1).pkg,.str (y.2.1).name,.int .i64 (y.2.1).n,.lst .str (y.2.1).names (some 701),.lst .str (y.2.1).vars (some 702),.lst (.st .shape) (y.2.1).shapes (some 703),.lst (.st .term) (y.2.1).parts (some 905),.int .i64 (y.2.1).pos])),(701,.tail .str y.2.1.names.length),(702,.tail .str y.2.1.vars.length),(703,.tail (.st .shape) y.2.1.shapes.length),(905,.tail (.st .term) y.2.1.parts.length)],fun y=>y.1⟩)],[],[]⟩ func60 (HD n k pp z g q us b e s hi hn hu)
theorem G3 (n:Nat) (hC:ac prog 64 (ES 57 56 fun x s mn mv ms mp=>⟨some (a8 s/\s.err=0/\rem s<=n/\mn=x.names.length/\mv=x.vars.length/\ms=x.shapes.length/\mp=x.parts.length/\mn+mv+ms+mp<=90000),none,.tup [],[(900,.box (.agg [.int .i64 ((am (a7 n) x s).1).kind,.str ((am (a7 n) x s).1).pkg,.str ((am (a7 n) x s).1).name,.int .i64 ((am (a7 n) x s).1).n,.lst .str ((am (a7 n) x s).1).names (some 904),.lst .str ((am (a7 n) x s).1).vars (some 905),.lst (.st .shape) ((am (a7 n) x s).1).shapes (some 906),.lst (.st .term) ((am (a7 n) x s).1).parts (some 907),.int .i64 ((am (a7 n) x s).1).pos])),(901,.box (.ptr 908 0)),(902,.box (.fn 57 [.ptr 901 0,.ptr 900 0])),(903,.box (.fn 56 [.ptr 900 0,.ptr 901 0])),(904,.tail .str (am (a7 n) x s).1.names.length),(905,.tail .str (am (a7 n) x s).1.vars.length),(906,.tail (.st .shape) (am (a7 n) x s).1.shapes.length),(907,.tail (.st .term) (am (a7 n) x s).1.parts.length),(908,.box (.st .par (am (a7 n) x s).2))]⟩)):ac prog 60 (Bn 64 57 56 fun x b e s mp=>⟨some (a8 s/\rem s<=n/\mp=x.parts.length/\mp<=1),none,.tup [],[(900,.box (.st .par (ad b e (am (a7 n)) x s).2)),(901,.box (.agg [.int .i64 ((ad b e (am (a7 n)) x s).1).kind,.str ((ad b e (am (a7 n)) x s).1).pkg,.str ((ad b e (am (a7 n)) x s).1).name,.int .i64 ((ad b e (am (a7 n)) x s).1).n,.lst .str ((ad b e (am (a7 n)) x s).1).names (some 701),.lst .str ((ad b e (am (a7 n)) x s).1).vars (some 702),.lst (.st .shape) ((ad b e (am (a7 n)) x s).1).shapes (some 703),.lst (.st .term) ((ad b e (am (a7 n)) x s).1).parts (some 905),.int .i64 ((ad b e (am (a7 n)) x s).1).pos])),(902,.box (.ptr 900 0)),(903,.box (.fn 57 [.ptr 902 0,.ptr 901 0])),(904,.box (.fn 56 [.ptr 901 0,.ptr 902 0])),(701,.tail .str (ad b e (am (a7 n)) x s).1.names.length),(702,.tail .str (ad b e (am (a7 n)) x s).1.vars.length),(703,.tail (.st .shape) (ad b e (am (a7 n)) x s).1.shapes.length),(905,.tail (.st .term) (ad b e (am (a7 n)) x s).1.parts.length)]⟩):=
 EU HQ (fun _ _ _ _ _=>rfl) (fun _ _ _ _ _=>by simp [an]) fun x b e s mp zn zv zs ho=>by
  obtain ⟨k,g,q,z,ns,vs,ss,us,pp⟩:=x
  simp only at zn zv zs
  obtain ⟨q1,q2,e1,ql⟩:=ho _ rfl
  subst zn zv zs e1
  exact zQ n k pp z g q us b e s q1 q2 ql hC
theorem G4:ar prog 60:=ee func60
theorem xt (n:Nat) (k pp z:Int) (g q:Str) (b e:Str) (s:Par) (hi:a8 s) (hn:rem s < n) (hC:ac prog 56 (uJ fun x s mp=>⟨some (a8 s/\rem s < n/\mp=x.parts.length/\mp<=100000),none,.tup [],[(900,.box (.agg [.int .i64 x.kind,.str x.pkg,.str x.name,.int .i64 x.n,.nils,.nils,.nils,.lst (.st .term) ((x.parts++[(a7 n s).1])) (some 902),.int .i64 x.pos])),(901,.box (.ptr 903 0)),(902,.tail (.st .term) (x.parts++[(a7 n s).1]).length),(903,.box (.st .par (a7 n s).2))]⟩)):aq prog 60 [.ptr 900 0,.str b,.str e,.fn 56 [.ptr 901 0,.ptr 902 0]] (EV 56 (⟨k,g,q,z,[],[],[],[],pp⟩:Trm) (.st .par s)) (⟨some (a8 s/\rem s < n),none,.tup [],[(900,.box (.st .par (ad b e (au (a7 n)) ⟨k,g,q,z,[],[],[],[],pp⟩ s).2)),(901,.box (.agg [.int .i64 ((ad b e (au (a7 n)) ⟨k,g,q,z,[],[],[],[],pp⟩ s).1).kind,.str ((ad b e (au (a7 n)) ⟨k,g,q,z,[],[],[],[],pp⟩ s).1).pkg,.str ((ad b e (au (a7 n)) ⟨k,g,q,z,[],[],[],[],pp⟩ s).1).name,.int .i64 ((ad b e (au (a7 n)) ⟨k,g,q,z,[],[],[],[],pp⟩ s).1).n,.nils,.nils,.nils,.lst (.st .term) ((ad b e (au (a7 n)) ⟨k,g,q,z,[],[],[],[],pp⟩ s).1).parts (some 701),.int .i64 ((ad b e (au (a7 n)) ⟨k,g,q,z,[],[],[],[],pp⟩ s).1).pos])),(902,.box (.ptr 900 0)),(701,.tail (.st .term) (ad b e (au (a7 n)) ⟨k,g,q,z,[],[],[],[],pp⟩ s).1.parts.length)]⟩):=
 g0 (sc fq (sc dQ (sc dg (sc (hC) sn)))) ⟨[(1,fun S0=>⟨Nat × Trm × Par,fun y=>a8 y.2.2/\rem y.2.2 < y.1/\rem y.2.2 < n/\y.2.1.parts.length+y.1<=5000/\y.2.1.names=[]/\y.2.1.vars=[]/\y.2.1.shapes=[]/\bS b e (au (a7 n)) y.1 y.2.1 y.2.2=(ad b e (au (a7 n)) ⟨k,g,q,z,[],[],[],[],pp⟩ s),fun _=>[],fun y=>[(900,.box (.st .par y.2.2)),(901,.box (.agg [.int .i64 (y.2.1).kind,.str (y.2.1).pkg,.str (y.2.1).name,.int .i64 (y.2.1).n,.nils,.nils,.nils,.lst (.st .term) (y.2.1).parts (some 701),.int .i64 (y.2.1).pos])),(701,.tail (.st .term) y.2.1.parts.length)],fun y=>y.1⟩)],[],[]⟩ func60 (FE n k pp z g q b e s hi hn)
theorem De (n:Nat) (hC:ac prog 56 (uJ fun x s mp=>⟨some (a8 s/\rem s < n/\mp=x.parts.length/\mp<=100000),none,.tup [],[(900,.box (.agg [.int .i64 x.kind,.str x.pkg,.str x.name,.int .i64 x.n,.nils,.nils,.nils,.lst (.st .term) ((x.parts++[(a7 n s).1])) (some 902),.int .i64 x.pos])),(901,.box (.ptr 903 0)),(902,.tail (.st .term) (x.parts++[(a7 n s).1]).length),(903,.box (.st .par (a7 n s).2))]⟩)):ac prog 60 (qR 56 fun x b e s=>⟨some (a8 s/\rem s < n),none,.tup [],[(900,.box (.st .par (ad b e (au (a7 n)) x s).2)),(901,.box (.agg [.int .i64 ((ad b e (au (a7 n)) x s).1).kind,.str ((ad b e (au (a7 n)) x s).1).pkg,.str ((ad b e (au (a7 n)) x s).1).name,.int .i64 ((ad b e (au (a7 n)) x s).1).n,.nils,.nils,.nils,.lst (.st .term) ((ad b e (au (a7 n)) x s).1).parts (some 701),.int .i64 ((ad b e (au (a7 n)) x s).1).pos])),(902,.box (.ptr 900 0)),(701,.tail (.st .term) (ad b e (au (a7 n)) x s).1.parts.length)]⟩):=
 wC G4 (fun _ _ _ _=>rfl) (fun _ _ _ _=>by simp [an]) fun x b e s zn zv zs zp ho=>by
  obtain ⟨k,g,q,z,ns,vs,ss,us,pp⟩:=x
  simp only at zn zv zs zp
  obtain ⟨q1,q2⟩:=ho _ rfl
  subst zn zv zs zp
  exact xt n k pp z g q b e s q1 q2 hC
theorem Df:ar prog 60:=ee func60
theorem uZ (n:Nat) (k pp z:Int) (g q:Str) (b e:Str) (s:Par) (hi:a8 s) (hn:rem s<=n) (hC:ac prog 165 (wB fun x s mn mp=>⟨some (a8 s/\s.err=0/\rem s<=n/\mn=x.names.length/\mp=x.parts.length/\mn+mp<=100000),none,.tup [],[(900,.box (.agg [.int .i64 ((ah (a7 n) x s).1).kind,.str ((ah (a7 n) x s).1).pkg,.str ((ah (a7 n) x s).1).name,.int .i64 ((ah (a7 n) x s).1).n,.lst .str ((ah (a7 n) x s).1).names (some 902),.nils,.nils,.lst (.st .term) ((ah (a7 n) x s).1).parts (some 903),.int .i64 ((ah (a7 n) x s).1).pos])),(901,.box (.ptr 904 0)),(902,.tail .str (ah (a7 n) x s).1.names.length),(903,.tail (.st .term) (ah (a7 n) x s).1.parts.length),(904,.box (.st .par (ah (a7 n) x s).2))]⟩)):aq prog 60 [.ptr 900 0,.str b,.str e,.fn 165 [.ptr 901 0,.ptr 902 0]] (EV 165 (⟨k,g,q,z,[],[],[],[],pp⟩:Trm) (.st .par s)) (⟨some (a8 s/\rem s<=n),none,.tup [],[(900,.box (.st .par (ad b e (ah (a7 n)) ⟨k,g,q,z,[],[],[],[],pp⟩ s).2)),(901,.box (.agg [.int .i64 ((ad b e (ah (a7 n)) ⟨k,g,q,z,[],[],[],[],pp⟩ s).1).kind,.str ((ad b e (ah (a7 n)) ⟨k,g,q,z,[],[],[],[],pp⟩ s).1).pkg,.str ((ad b e (ah (a7 n)) ⟨k,g,q,z,[],[],[],[],pp⟩ s).1).name,.int .i64 ((ad b e (ah (a7 n)) ⟨k,g,q,z,[],[],[],[],pp⟩ s).1).n,.lst .str ((ad b e (ah (a7 n)) ⟨k,g,q,z,[],[],[],[],pp⟩ s).1).names (some 701),.nils,.nils,.lst (.st .term) ((ad b e (ah (a7 n)) ⟨k,g,q,z,[],[],[],[],pp⟩ s).1).parts (some 702),.int .i64 ((ad b e (ah (a7 n)) ⟨k,g,q,z,[],[],[],[],pp⟩ s).1).pos])),(902,.box (.ptr 900 0)),(701,.tail .str (ad b e (ah (a7 n)) ⟨k,g,q,z,[],[],[],[],pp⟩ s).1.names.length),(702,.tail (.st .term) (ad b e (ah (a7 n)) ⟨k,g,q,z,[],[],[],[],pp⟩ s).1.parts.length)]⟩):=
 g0 (sc fq (sc dQ (sc dg (sc (hC) sn)))) ⟨[(1,fun S0=>⟨Nat × Trm × Par,fun y=>a8 y.2.2/\rem y.2.2 < y.1/\rem y.2.2<=n/\y.2.1.names.length+y.1<=5000/\y.2.1.parts.length+y.1<=5000/\y.2.1.vars=[]/\y.2.1.shapes=[]/\bS b e (ah (a7 n)) y.1 y.2.1 y.2.2=(ad b e (ah (a7 n)) ⟨k,g,q,z,[],[],[],[],pp⟩ s),fun _=>[],fun y=>[(900,.box (.st .par y.2.2)),(901,.box (.agg [.int .i64 (y.2.1).kind,.str (y.2.1).pkg,.str (y.2.1).name,.int .i64 (y.2.1).n,.lst .str (y.2.1).names (some 701),.nils,.nils,.lst (.st .term) (y.2.1).parts (some 702),.int .i64 (y.2.1).pos])),(701,.tail .str y.2.1.names.length),(702,.tail (.st .term) y.2.1.parts.length)],fun y=>y.1⟩)],[],[]⟩ func60 (CE n k pp z g q b e s hi hn)
theorem zR (n:Nat) (hC:ac prog 165 (wB fun x s mn mp=>⟨some (a8 s/\s.err=0/\rem s<=n/\mn=x.names.length/\mp=x.parts.length/\mn+mp<=100000),none,.tup [],[(900,.box (.agg [.int .i64 ((ah (a7 n) x s).1).kind,.str ((ah (a7 n) x s).1).pkg,.str ((ah (a7 n) x s).1).name,.int .i64 ((ah (a7 n) x s).1).n,.lst .str ((ah (a7 n) x s).1).names (some 902),.nils,.nils,.lst (.st .term) ((ah (a7 n) x s).1).parts (some 903),.int .i64 ((ah (a7 n) x s).1).pos])),(901,.box (.ptr 904 0)),(902,.tail .str (ah (a7 n) x s).1.names.length),(903,.tail (.st .term) (ah (a7 n) x s).1.parts.length),(904,.box (.st .par (ah (a7 n) x s).2))]⟩)):ac prog 60 (qR 165 fun x b e s=>⟨some (a8 s/\rem s<=n),none,.tup [],[(900,.box (.st .par (ad b e (ah (a7 n)) x s).2)),(901,.box (.agg [.int .i64 ((ad b e (ah (a7 n)) x s).1).kind,.str ((ad b e (ah (a7 n)) x s).1).pkg,.str ((ad b e (ah (a7 n)) x s).1).name,.int .i64 ((ad b e (ah (a7 n)) x s).1).n,.lst .str ((ad b e (ah (a7 n)) x s).1).names (some 701),.nils,.nils,.lst (.st .term) ((ad b e (ah (a7 n)) x s).1).parts (some 702),.int .i64 ((ad b e (ah (a7 n)) x s).1).pos])),(902,.box (.ptr 900 0)),(701,.tail .str (ad b e (ah (a7 n)) x s).1.names.length),(702,.tail (.st .term) (ad b e (ah (a7 n)) x s).1.parts.length)]⟩):=
 wC Df (fun _ _ _ _=>rfl) (fun _ _ _ _=>by simp [an]) fun x b e s zn zv zs zp ho=>by
  obtain ⟨k,g,q,z,ns,vs,ss,us,pp⟩:=x
  simp only at zn zv zs zp
  obtain ⟨q1,q2⟩:=ho _ rfl
  subst zn zv zs zp
  exact uZ n k pp z g q b e s q1 q2 hC
theorem G5:ar prog 60:=ee func60
theorem xu (n:Nat) (k pp z:Int) (g q:Str) (us:List Trm) (b e:Str) (s:Par) (hi:a8 s) (hn:rem s < n) (hu:us.length<=1) (hC:ac prog 118 (uJ fun x s mp=>⟨some (a8 s/\rem s < n/\mp=x.parts.length/\mp<=100000),none,.tup [],[(900,.box (.agg [.int .i64 x.kind,.str x.pkg,.str x.name,.int .i64 x.n,.nils,.nils,.nils,.lst (.st .term) ((x.parts++[(a7 n s).1])) (some 902),.int .i64 x.pos])),(901,.box (.ptr 903 0)),(902,.tail (.st .term) (x.parts++[(a7 n s).1]).length),(903,.box (.st .par (a7 n s).2))]⟩)):aq prog 60 [.ptr 900 0,.str b,.str e,.fn 118 [.ptr 901 0,.ptr 902 0]] (EW 118 (⟨k,g,q,z,[],[],[],us,pp⟩:Trm) (.st .par s) us.length) (⟨some (a8 s/\rem s < n/\us.length=us.length/\us.length<=1),none,.tup [],[(900,.box (.st .par (ad b e (au (a7 n)) ⟨k,g,q,z,[],[],[],us,pp⟩ s).2)),(901,.box (.agg [.int .i64 ((ad b e (au (a7 n)) ⟨k,g,q,z,[],[],[],us,pp⟩ s).1).kind,.str ((ad b e (au (a7 n)) ⟨k,g,q,z,[],[],[],us,pp⟩ s).1).pkg,.str ((ad b e (au (a7 n)) ⟨k,g,q,z,[],[],[],us,pp⟩ s).1).name,.int .i64 ((ad b e (au (a7 n)) ⟨k,g,q,z,[],[],[],us,pp⟩ s).1).n,.nils,.nils,.nils,.lst (.st .term) ((ad b e (au (a7 n)) ⟨k,g,q,z,[],[],[],us,pp⟩ s).1).parts (some 903),.int .i64 ((ad b e (au (a7 n)) ⟨k,g,q,z,[],[],[],us,pp⟩ s).1).pos])),(902,.box (.ptr 900 0)),(903,.tail (.st .term) (ad b e (au (a7 n)) ⟨k,g,q,z,[],[],[],us,pp⟩ s).1.parts.length)]⟩):=
 g0 (sc fq (sc dQ (sc dg (sc (hC) sn)))) ⟨[(1,fun S0=>⟨Nat × Trm × Par,fun y=>a8 y.2.2/\rem y.2.2 < y.1/\rem y.2.2 < n/\y.2.1.parts.length+y.1<=5000/\y.2.1.names=[]/\y.2.1.vars=[]/\y.2.1.shapes=[]/\bS b e (au (a7 n)) y.1 y.2.1 y.2.2=(ad b e (au (a7 n)) ⟨k,g,q,z,[],[],[],us,pp⟩ s),fun _=>[],fun y=>[(900,.box (.st .par y.2.2)),(901,.box (.agg [.int .i64 (y.2.1).kind,.str (y.2.1).pkg,.str (y.2.1).name,.int .i64 (y.2.1).n,.nils,.nils,.nils,.lst (.st .term) (y.2.1).parts (some 903),.int .i64 (y.2.1).pos])),(903,.tail (.st .term) y.2.1.parts.length)],fun y=>y.1⟩)],[],[]⟩ func60 (FF n k pp z g q us b e s hi hn hu)
theorem Dg (n:Nat) (hC:ac prog 118 (uJ fun x s mp=>⟨some (a8 s/\rem s < n/\mp=x.parts.length/\mp<=100000),none,.tup [],[(900,.box (.agg [.int .i64 x.kind,.str x.pkg,.str x.name,.int .i64 x.n,.nils,.nils,.nils,.lst (.st .term) ((x.parts++[(a7 n s).1])) (some 902),.int .i64 x.pos])),(901,.box (.ptr 903 0)),(902,.tail (.st .term) (x.parts++[(a7 n s).1]).length),(903,.box (.st .par (a7 n s).2))]⟩)):ac prog 60 (qS 118 fun x b e s mp=>⟨some (a8 s/\rem s < n/\mp=x.parts.length/\mp<=1),none,.tup [],[(900,.box (.st .par (ad b e (au (a7 n)) x s).2)),(901,.box (.agg [.int .i64 ((ad b e (au (a7 n)) x s).1).kind,.str ((ad b e (au (a7 n)) x s).1).pkg,.str ((ad b e (au (a7 n)) x s).1).name,.int .i64 ((ad b e (au (a7 n)) x s).1).n,.nils,.nils,.nils,.lst (.st .term) ((ad b e (au (a7 n)) x s).1).parts (some 903),.int .i64 ((ad b e (au (a7 n)) x s).1).pos])),(902,.box (.ptr 900 0)),(903,.tail (.st .term) (ad b e (au (a7 n)) x s).1.parts.length)]⟩):=
 Ci G5 (fun _ _ _ _ _=>rfl) (fun _ _ _ _ _=>by simp [an]) fun x b e s mp zn zv zs ho=>by
  obtain ⟨k,g,q,z,ns,vs,ss,us,pp⟩:=x
  simp only at zn zv zs
  obtain ⟨q1,q2,e1,ql⟩:=ho _ rfl
  subst zn zv zs e1
  exact xu n k pp z g q us b e s q1 q2 ql hC
theorem HR:ar prog 65:=ee func65
theorem zS (n:Nat) (s:Par)  (ho:a8 s/\rem s < n+1) (hA:ac prog 117 (pP0 fun s=>⟨some (a8 s/\rem s < n+1),none,.st .term (eh (a7 n) s).1,[(900,.box (.st .par (eh (a7 n) s).2))]⟩)) (hL:ac prog 60 (qS 118 fun x b e s mp=>⟨some (a8 s/\rem s < n/\mp=x.parts.length/\mp<=1),none,.tup [],[(900,.box (.st .par (ad b e (au (a7 n)) x s).2)),(901,.box (.agg [.int .i64 ((ad b e (au (a7 n)) x s).1).kind,.str ((ad b e (au (a7 n)) x s).1).pkg,.str ((ad b e (au (a7 n)) x s).1).name,.int .i64 ((ad b e (au (a7 n)) x s).1).n,.nils,.nils,.nils,.lst (.st .term) ((ad b e (au (a7 n)) x s).1).parts (some 903),.int .i64 ((ad b e (au (a7 n)) x s).1).pos])),(902,.box (.ptr 900 0)),(903,.tail (.st .term) (ad b e (au (a7 n)) x s).1.parts.length)]⟩)):aq prog 65 [.ptr 900 0] [(900,.box (.st .par s))] (⟨some (a8 s/\rem s < n+1),none,.st .term (fR (a7 n) s).1,[(900,.box (.st .par ((fR (a7 n) s).2)))]⟩):=
 g0 (sc fV (sc (hA) (sc dQ (sc fq (sc jJ (sc (hL) sn)))))) ⟨[(3,fun S0=>⟨Nat × Trm × Par,fun y=>a8 y.2.2/\rem y.2.2 < y.1/\rem y.2.2 < n+1/\ja (a7 n) (ao s).pos y.1 y.2.1 y.2.2=fR (a7 n) s,fun _=>[],fun y=>[(900,.box (.st .par y.2.2)),(4,.box (.st .term y.2.1))],fun y=>y.1⟩)],[],[]⟩ func65 (HE n s ho)
theorem G6 (n:Nat) (hA:ac prog 117 (pP0 fun s=>⟨some (a8 s/\rem s < n+1),none,.st .term (eh (a7 n) s).1,[(900,.box (.st .par (eh (a7 n) s).2))]⟩)) (hL:ac prog 60 (qS 118 fun x b e s mp=>⟨some (a8 s/\rem s < n/\mp=x.parts.length/\mp<=1),none,.tup [],[(900,.box (.st .par (ad b e (au (a7 n)) x s).2)),(901,.box (.agg [.int .i64 ((ad b e (au (a7 n)) x s).1).kind,.str ((ad b e (au (a7 n)) x s).1).pkg,.str ((ad b e (au (a7 n)) x s).1).name,.int .i64 ((ad b e (au (a7 n)) x s).1).n,.nils,.nils,.nils,.lst (.st .term) ((ad b e (au (a7 n)) x s).1).parts (some 903),.int .i64 ((ad b e (au (a7 n)) x s).1).pos])),(902,.box (.ptr 900 0)),(903,.tail (.st .term) (ad b e (au (a7 n)) x s).1.parts.length)]⟩)):ac prog 65 (pP0 fun s=>⟨some (a8 s/\rem s < n+1),none,.st .term (fR (a7 n) s).1,[(900,.box (.st .par ((fR (a7 n) s).2)))]⟩):=
 iV HR (fun _=>rfl) (fun _=>by simp [an]) fun s ho=>zS n s (ho _ rfl) hA hL
theorem HS:ar prog 117:=ee func117
theorem zT (n:Nat) (s:Par)  (ho:a8 s/\rem s < n+1) (hT:ac prog 34 (pP0 fun s=>⟨some (a8 s/\rem s < n),none,.st .term (a7 n s).1,[(900,.box (.st .par (a7 n s).2))]⟩)) (hL:ac prog 60 (qR 165 fun x b e s=>⟨some (a8 s/\rem s<=n),none,.tup [],[(900,.box (.st .par (ad b e (ah (a7 n)) x s).2)),(901,.box (.agg [.int .i64 ((ad b e (ah (a7 n)) x s).1).kind,.str ((ad b e (ah (a7 n)) x s).1).pkg,.str ((ad b e (ah (a7 n)) x s).1).name,.int .i64 ((ad b e (ah (a7 n)) x s).1).n,.lst .str ((ad b e (ah (a7 n)) x s).1).names (some 701),.nils,.nils,.lst (.st .term) ((ad b e (ah (a7 n)) x s).1).parts (some 702),.int .i64 ((ad b e (ah (a7 n)) x s).1).pos])),(902,.box (.ptr 900 0)),(701,.tail .str (ad b e (ah (a7 n)) x s).1.names.length),(702,.tail (.st .term) (ad b e (ah (a7 n)) x s).1.parts.length)]⟩)) (hI:ac prog 166 (pP0 fun s=>⟨some (a8 s/\rem (aj [40] s) < n),none,.lst (.st .term) (dj (a7 n) s).1 none,[(900,.box (.st .par (dj (a7 n) s).2))]⟩)):aq prog 117 [.ptr 900 0] [(900,.box (.st .par s))] (⟨some (a8 s/\rem s < n+1),none,.st .term (eh (a7 n) s).1,[(900,.box (.st .par ((eh (a7 n) s).2)))]⟩):=
 g0 (sc fV (sc dQ (sc (wP) (sc fq (sc jJ (sc dg (sc jK (sc gZ (sc (hT) (sc (hL) (sc (hI) sn))))))))))) a0 func117 (HF n s ho)
theorem G7 (n:Nat) (hT:ac prog 34 (pP0 fun s=>⟨some (a8 s/\rem s < n),none,.st .term (a7 n s).1,[(900,.box (.st .par (a7 n s).2))]⟩)) (hL:ac prog 60 (qR 165 fun x b e s=>⟨some (a8 s/\rem s<=n),none,.tup [],[(900,.box (.st .par (ad b e (ah (a7 n)) x s).2)),(901,.box (.agg [.int .i64 ((ad b e (ah (a7 n)) x s).1).kind,.str ((ad b e (ah (a7 n)) x s).1).pkg,.str ((ad b e (ah (a7 n)) x s).1).name,.int .i64 ((ad b e (ah (a7 n)) x s).1).n,.lst .str ((ad b e (ah (a7 n)) x s).1).names (some 701),.nils,.nils,.lst (.st .term) ((ad b e (ah (a7 n)) x s).1).parts (some 702),.int .i64 ((ad b e (ah (a7 n)) x s).1).pos])),(902,.box (.ptr 900 0)),(701,.tail .str (ad b e (ah (a7 n)) x s).1.names.length),(702,.tail (.st .term) (ad b e (ah (a7 n)) x s).1.parts.length)]⟩)) (hI:ac prog 166 (pP0 fun s=>⟨some (a8 s/\rem (aj [40] s) < n),none,.lst (.st .term) (dj (a7 n) s).1 none,[(900,.box (.st .par (dj (a7 n) s).2))]⟩)):ac prog 117 (pP0 fun s=>⟨some (a8 s/\rem s < n+1),none,.st .term (eh (a7 n) s).1,[(900,.box (.st .par ((eh (a7 n) s).2)))]⟩):=
 iV HS (fun _=>rfl) (fun _=>by simp [an]) fun s ho=>zT n s (ho _ rfl) hT hL hI
theorem Bu:ar prog 34:=ee func34
theorem zU (n:Nat) (s:Par)  (ho:a8 s/\rem s < n+1) (hPo:ac prog 56 (pT_ fun x s=>⟨some (a8 s/\rem s < n),none,.tup [],[(900,.box (.agg [.int .i64 x.kind,.str x.pkg,.str x.name,.int .i64 x.n,.nils,.nils,.nils,.lst (.st .term) ((x.parts++[(a7 n s).1])) (some 8),.int .i64 x.pos])),(901,.box (.ptr 902 0)),(902,.box (.st .par (a7 n s).2)),(8,.tail (.st .term) (x.parts++[(a7 n s).1]).length)]⟩)) (hPp:ac prog 56 (uJ fun x s mp=>⟨some (a8 s/\rem s < n/\mp=x.parts.length/\mp<=100000),none,.tup [],[(900,.box (.agg [.int .i64 x.kind,.str x.pkg,.str x.name,.int .i64 x.n,.nils,.nils,.nils,.lst (.st .term) ((x.parts++[(a7 n s).1])) (some 902),.int .i64 x.pos])),(901,.box (.ptr 903 0)),(902,.tail (.st .term) (x.parts++[(a7 n s).1]).length),(903,.box (.st .par (a7 n s).2))]⟩)) (hPns:ac prog 56 (Bk fun x s mn ms=>⟨some (a8 s/\rem s < n/\mn=x.names.length/\ms=x.shapes.length/\mn+ms<=100000),none,.tup [],[(900,.box (.agg [.int .i64 x.kind,.str x.pkg,.str x.name,.int .i64 x.n,.lst .str (x.names) (some 902),.nils,.lst (.st .shape) (x.shapes) (some 903),.lst (.st .term) ((x.parts++[(a7 n s).1])) (some 8),.int .i64 x.pos])),(901,.box (.ptr 904 0)),(902,.tail .str x.names.length),(903,.tail (.st .shape) x.shapes.length),(904,.box (.st .par (a7 n s).2)),(8,.tail (.st .term) (x.parts++[(a7 n s).1]).length)]⟩)) (hF:ac prog 60 (Bm 61 57 fun x b e s=>⟨some (a8 s/\rem s<=n),none,.tup [],[(900,.box (.st .par (ad b e (ay) x s).2)),(901,.box (.agg [.int .i64 ((ad b e (ay) x s).1).kind,.str ((ad b e (ay) x s).1).pkg,.str ((ad b e (ay) x s).1).name,.int .i64 ((ad b e (ay) x s).1).n,.lst .str ((ad b e (ay) x s).1).names (some 701),.nils,.lst (.st .shape) ((ad b e (ay) x s).1).shapes (some 702),.nils,.int .i64 ((ad b e (ay) x s).1).pos])),(902,.box (.ptr 900 0)),(903,.box (.fn 57 [.ptr 902 0,.ptr 901 0])),(701,.tail .str (ad b e (ay) x s).1.names.length),(702,.tail (.st .shape) (ad b e (ay) x s).1.shapes.length)]⟩)) (hW:ac prog 60 (Bn 64 57 56 fun x b e s mp=>⟨some (a8 s/\rem s<=n/\mp=x.parts.length/\mp<=1),none,.tup [],[(900,.box (.st .par (ad b e (am (a7 n)) x s).2)),(901,.box (.agg [.int .i64 ((ad b e (am (a7 n)) x s).1).kind,.str ((ad b e (am (a7 n)) x s).1).pkg,.str ((ad b e (am (a7 n)) x s).1).name,.int .i64 ((ad b e (am (a7 n)) x s).1).n,.lst .str ((ad b e (am (a7 n)) x s).1).names (some 701),.lst .str ((ad b e (am (a7 n)) x s).1).vars (some 702),.lst (.st .shape) ((ad b e (am (a7 n)) x s).1).shapes (some 703),.lst (.st .term) ((ad b e (am (a7 n)) x s).1).parts (some 905),.int .i64 ((ad b e (am (a7 n)) x s).1).pos])),(902,.box (.ptr 900 0)),(903,.box (.fn 57 [.ptr 902 0,.ptr 901 0])),(904,.box (.fn 56 [.ptr 901 0,.ptr 902 0])),(701,.tail .str (ad b e (am (a7 n)) x s).1.names.length),(702,.tail .str (ad b e (am (a7 n)) x s).1.vars.length),(703,.tail (.st .shape) (ad b e (am (a7 n)) x s).1.shapes.length),(905,.tail (.st .term) (ad b e (am (a7 n)) x s).1.parts.length)]⟩)) (hE:ac prog 60 (qR 56 fun x b e s=>⟨some (a8 s/\rem s < n),none,.tup [],[(900,.box (.st .par (ad b e (au (a7 n)) x s).2)),(901,.box (.agg [.int .i64 ((ad b e (au (a7 n)) x s).1).kind,.str ((ad b e (au (a7 n)) x s).1).pkg,.str ((ad b e (au (a7 n)) x s).1).name,.int .i64 ((ad b e (au (a7 n)) x s).1).n,.nils,.nils,.nils,.lst (.st .term) ((ad b e (au (a7 n)) x s).1).parts (some 701),.int .i64 ((ad b e (au (a7 n)) x s).1).pos])),(902,.box (.ptr 900 0)),(701,.tail (.st .term) (ad b e (au (a7 n)) x s).1.parts.length)]⟩)) (hO:ac prog 65 (pP0 fun s=>⟨some (a8 s/\rem s < n+1),none,.st .term (fR (a7 n) s).1,[(900,.box (.st .par (fR (a7 n) s).2))]⟩)):aq prog 34 [.ptr 900 0] [(900,.box (.st .par s))] (⟨some (a8 s/\rem s < n+1),none,.st .term (a7 (n+1) s).1,[(900,.box (.st .par ((a7 (n+1) s).2)))]⟩):=
 g0 (sc fV (sc fq (sc dg (sc jJ (sc Da (sc nE (sc rA (sc (hPo) (sc (hPp) (sc (hPns) (sc (hF) (sc (hW) (sc (hE) (sc (hO) sn)))))))))))))) a0 func34 (HG n s ho)
theorem xw:∀n:Nat,ac prog 34 (pP0 fun s=>⟨some (a8 s/\rem s < n),none,.st .term (a7 n s).1,[(900,.box (.st .par (a7 n s).2))]⟩)
 | 0=>iV Bu (fun _=>rfl) (fun _=>by simp [an]) fun s ho=>absurd (ho _ rfl).2 (Nat.not_lt_zero _)
 | n+1=>by
  have hT:=xw n
  exact iV Bu (fun _=>rfl) (fun _=>by simp [an]) fun s ho=>
   zU n s (ho _ rfl) (zM n hT) (rz n hT) (xp n hT) (G2 n) (G3 n (HO n (sC n hT))) (De n (rz n hT))
    (G6 n (G7 n hT (zR n (Db n hT)) (Dd n hT)) (Dg n (zO n hT)))
theorem tv:ac prog 28 (p2 (.lst (.st .token)) (.int .i64) fun l a=>⟨none,none,.ptr 10 0,[(10,.box (.st .par (aQ l a)))]⟩):=
 dN (ee func28) fun l a hl _ _=>g0 (sc gZ sn) a0 func28 (FH l a hl)
theorem rB:ac prog 42 (p2 (.lst (.st .token)) (.int .i64) fun l a=>⟨some (0<=a/\a < (l.length:Int)),none,.st .fault (dG l a),[]⟩):=
 dN (ee func42) fun l a hl _ ho=>g0 sn a0 func42 (CF l a hl (ho _ rfl))
theorem xx:ac prog 12 (p2 (.lst (.st .token)) (.int .i64) fun l a=>⟨some (dr l),none,.tup [.st .shape (bu l a).1,.int .i64 (bu l a).2.1,.st .fault (bu l a).2.2],[]⟩):=
 dN (ee func12) fun l a _ _ ho=>g0 (sc tv (sc dQ (sc jK sn))) a0 func12 (HH l a (ho _ rfl))
theorem tw:ar prog 66:=ee func66
theorem v6 (n:Nat) (t:Trm) (m:Int) (hs:Wf (.st .term) t) (hz:szT t<=n+1) (h0:0<=m) (h1:m<=1000000) (hA:ac prog 66 (p2 (.st .term) (.int .i64) fun t m=>⟨some (szT t<=n/\0<=m/\m<=1000000),none,.tup [.int .i64 (countT t m).1,.int .i64 (countT t m).2],[]⟩)):aq prog 66 [.st .term t,.int .i64 m] [] (⟨some (szT t<=n+1/\0<=m/\m<=1000000),none,.tup [.int .i64 (countT t m).1,.int .i64 (countT t m).2],[]⟩):=
 g0 (sc (hA) sn) ⟨[(3,fun S0=>⟨Nat × Int × Int,fun y=>y.1<=t.parts.length/\1<=y.2.1/\y.2.1<=m+1/\0<=y.2.2/\y.2.2+1<=y.2.1/\countL (t.parts.drop y.1) m y.2.1 y.2.2=countL t.parts m 1 0,fun y=>[(6,.int .i64 y.2.1),(7,.int .i64 y.2.2),(15,.int .i64 y.1)],fun _=>[],fun y=>t.parts.length - y.1⟩)],[],[]⟩ func66 (CG n t m hs hz h0 h1)
theorem rC:∀n:Nat,ac prog 66 (p2 (.st .term) (.int .i64) fun t m=>⟨some (szT t<=n/\0<=m/\m<=1000000),none,.tup [.int .i64 (countT t m).1,.int .i64 (countT t m).2],[]⟩)
 | 0=>dN tw fun t m hs _ ho=>absurd (ho _ rfl).1 (by have:=Bp t;omega)
 | n+1=>dN tw fun t m hs _ ho=>v6 n t m hs (ho _ rfl).1 (ho _ rfl).2.1 (ho _ rfl).2.2 (rC n)
theorem xy:ac prog 214 (pcl .str 130 fun x=>⟨none,none,.bool (!aU x),[]⟩):=
 uM (ee func214) fun x _ ho=>g0 (sc lx sn) a0 func214 (zy x)
theorem xz:ac prog 244 (pfc (.lst .str) 214 130 fun l=>⟨none,none,.int .i64 (cK aU l 0),[]⟩):=
 lh (ee func244) fun l hl ho=>g0 (sc xy sn) ⟨[(2,fun S0=>⟨Nat,fun k=>k<=l.length/\cK aU (l.drop k) k=cK aU l 0,fun k=>[(8,.int .i64 k)],fun _=>[],fun k=>l.length - k⟩)],[],[]⟩ func244 (zA l hl)
theorem xA:ac prog 213 (pfc (.lst .str) 214 130 fun l=>⟨none,none,.bool (!l.all aU),[]⟩):=
 lh (ee func213) fun l _ ho=>g0 (sc xz sn) a0 func213 (zB l)
theorem tz:ac prog 172 (pf (.lst .str) 130 fun l=>⟨none,none,.bool (l.all aU),[]⟩):=
 oZ (ee func172) fun l _ ho=>g0 (sc xA sn) a0 func172 (FI l)
theorem Dh:ac prog 171 (p1 (.lst .str) fun l=>⟨some (l.length *16<=140737488355328),none,.bool (l.all aU && decide l.Nodup),[]⟩):=
 b6 (ee func171) fun l _ ho=>g0 (sc rx (sc (rc) (sc tz (sc (pe) sn)))) a0 func171 (FJ l (ho _ rfl))
theorem zW:ar prog 210:=ee func210
theorem sD (n:Nat) (x:Shape)  (ho:sz x<=n) (hA:ac prog 211 (p1 (.st .shape) fun s=>⟨some (sz s<=n),none,.bool (allS ck s),[]⟩)):aq prog 210 [.st .shape x,.ptr 900 0] [(900,.box (.fn 211 []))] (⟨some (sz x<=n),none,.bool (!(allS ck) x),[]⟩):=
 g0 (sc (hA) sn) a0 func210 (zC n x ho)
theorem xB (n:Nat) (hA:ac prog 211 (p1 (.st .shape) fun s=>⟨some (sz s<=n),none,.bool (allS ck s),[]⟩)):ac prog 210 (pcl (.st .shape) 211 fun x=>⟨some (sz x<=n),none,.bool (!(allS ck) x),[]⟩):=
 uM zW fun x _ ho=>sD n x (ho _ rfl) hA
theorem zX:ar prog 242:=ee func242
theorem sE (n:Nat) (l:List AL.Shape)  (hl:Wf (.lst (.st .shape)) l) (ho:∀x∈l,sz x<=n) (hA:ac prog 211 (p1 (.st .shape) fun s=>⟨some (sz s<=n),none,.bool (allS ck s),[]⟩)):aq prog 242 [.lst (.st .shape) l none,.fn 210 [.ptr 900 0]] [(900,.box (.fn 211 []))] (⟨some (∀x∈l,sz x<=n),none,.int .i64 (cK (allS ck) l 0),[]⟩):=
 g0 (sc ((xB n hA)) sn) ⟨[(2,fun S0=>⟨Nat,fun k=>k<=l.length/\cK (allS ck) (l.drop k) k=cK (allS ck) l 0,fun k=>[(8,.int .i64 k)],fun _=>[],fun k=>l.length - k⟩)],[],[]⟩ func242 (zD n l hl ho)
theorem xC (n:Nat) (hA:ac prog 211 (p1 (.st .shape) fun s=>⟨some (sz s<=n),none,.bool (allS ck s),[]⟩)):ac prog 242 (pfc (.lst (.st .shape)) 210 211 fun l=>⟨some (∀x∈l,sz x<=n),none,.int .i64 (cK (allS ck) l 0),[]⟩):=
 lh zX fun l hl ho=>sE n l hl (ho _ rfl) hA
theorem zY:ar prog 209:=ee func209
theorem sF (n:Nat) (l:List AL.Shape)  (ho:∀x∈l,sz x<=n) (hA:ac prog 211 (p1 (.st .shape) fun s=>⟨some (sz s<=n),none,.bool (allS ck s),[]⟩)):aq prog 209 [.lst (.st .shape) l none,.fn 210 [.ptr 900 0]] [(900,.box (.fn 211 []))] (⟨some (∀x∈l,sz x<=n),none,.bool (!l.all (allS ck)),[]⟩):=
 g0 (sc ((xC n hA)) sn) a0 func209 (zE n l ho)
theorem xD (n:Nat) (hA:ac prog 211 (p1 (.st .shape) fun s=>⟨some (sz s<=n),none,.bool (allS ck s),[]⟩)):ac prog 209 (pfc (.lst (.st .shape)) 210 211 fun l=>⟨some (∀x∈l,sz x<=n),none,.bool (!l.all (allS ck)),[]⟩):=
 lh zY fun l _ ho=>sF n l (ho _ rfl) hA
theorem G8:ar prog 168:=ee func168
theorem xE (n:Nat) (l:List AL.Shape)  (ho:∀x∈l,sz x<=n) (hA:ac prog 211 (p1 (.st .shape) fun s=>⟨some (sz s<=n),none,.bool (allS ck s),[]⟩)):aq prog 168 [.lst (.st .shape) l none,.fn 211 []] [] (⟨some (∀x∈l,sz x<=n),none,.bool (l.all (allS ck)),[]⟩):=
 g0 (sc ((xD n hA)) sn) a0 func168 (FK n l ho)
theorem Di (n:Nat) (hA:ac prog 211 (p1 (.st .shape) fun s=>⟨some (sz s<=n),none,.bool (allS ck s),[]⟩)):ac prog 168 (pf (.lst (.st .shape)) 211 fun l=>⟨some (∀x∈l,sz x<=n),none,.bool (l.all (allS ck)),[]⟩):=
 oZ G8 fun l _ ho=>xE n l (ho _ rfl) hA
theorem Bv:ar prog 211:=ee func211
theorem zZ (n:Nat) (s:AL.Shape) (ho:sz s<=n+1) (hE:ac prog 168 (pf (.lst (.st .shape)) 211 fun l=>⟨some (∀x∈l,sz x<=n),none,.bool (l.all (allS ck)),[]⟩)):aq prog 211 [.st .shape s] [] (⟨some (sz s<=n+1),none,.bool (allS ck s),[]⟩):=
 g0 (sc (hE) sn) a0 func211 (HI n s ho)
theorem xF:∀n:Nat,ac prog 211 (p1 (.st .shape) fun s=>⟨some (sz s<=n),none,.bool (allS ck s),[]⟩)
 | 0=>b6 Bv fun s _ ho=>absurd (ho _ rfl) (by have:=jl s;omega)
 | n+1=>b6 Bv fun s _ ho=>zZ n s (ho _ rfl) (Di n (xF n))
theorem A2:ac prog 169 (p1 (.st .shape) fun s=>.ret (.bool (decide (bK s=0) && allS ck s))):=
 b6 (ee func169) fun s _ _=>g0 (sc tu (sc (xF 400) sn)) a0 func169 (CH s)
theorem HT:ac prog 167 (p1 (.st .term) fun t=>.ret (.agg [.int .i64 (t.names.length:Int),.int .i64 (t.vars.length:Int),.int .i64 (t.shapes.length:Int),.int .i64 (t.parts.length:Int)])):=
 b6 (ee func167) fun t _ _=>g0 sn a0 func167 (IY t)
theorem Dj:ac prog 170 (p1 .str fun s=>.ret (.bool (rg s))):=
 b6 (ee func170) fun s hs _=>g0 (sc (Cp) sn) ⟨[(2,fun S0=>⟨Nat,fun k=>k<=s.length/\(s.all jG)=(s.drop k).all jG,fun k=>[(8,.int .i64 k)],fun _=>[],fun k=>s.length - k⟩)],[],[]⟩ func170 (FL s hs)
theorem v7:ac prog 210 (pcl (.st .shape) 169 fun x=>⟨none,none,.bool (!dC x),[]⟩):=
 uM (ee func210) fun x _ ho=>g0 (sc A2 sn) a0 func210 (wY x)
theorem v8:ac prog 242 (pfc (.lst (.st .shape)) 210 169 fun l=>⟨none,none,.int .i64 (cK dC l 0),[]⟩):=
 lh (ee func242) fun l hl ho=>g0 (sc v7 sn) ⟨[(2,fun S0=>⟨Nat,fun k=>k<=l.length/\cK dC (l.drop k) k=cK dC l 0,fun k=>[(8,.int .i64 k)],fun _=>[],fun k=>l.length - k⟩)],[],[]⟩ func242 (wZ l hl)
theorem vd:ac prog 209 (pfc (.lst (.st .shape)) 210 169 fun l=>⟨none,none,.bool (!l.all dC),[]⟩):=
 lh (ee func209) fun l _ ho=>g0 (sc v8 sn) a0 func209 (x9 l)
theorem A3:ac prog 168 (pf (.lst (.st .shape)) 169 fun l=>⟨none,none,.bool (l.all dC),[]⟩):=
 oZ (ee func168) fun l _ ho=>g0 (sc vd sn) a0 func168 (CI l)
theorem Dk:ac prog 119 (p1 (.st .term) fun t=>⟨some (t.names.length<=1000000),none,.bool (bn t),[]⟩):=
 b6 (ee func119) fun t ht ho=>g0 (sc HT (sc A3 (sc Dj (sc lx (sc Dh (sc tz (sc oz sn))))))) ⟨[],[],[(2,fun S0=>⟨[(34,.bool (!ph t))],[]⟩)]⟩ func119 (FM t ht (ho _ rfl))
theorem xG:ar prog 100:=ee func100
theorem rD (n:Nat) (x:Trm)  (ho:szT x<=n/\cO x=true) (hA:ac prog 67 (p1 (.st .term) fun t=>⟨some (szT t<=n/\cO t=true),none,.bool (allT bn t),[]⟩)):aq prog 100 [.st .term x,.ptr 900 0] [(900,.box (.fn 67 []))] (⟨some (szT x<=n/\cO x=true),none,.bool (!(allT bn) x),[]⟩):=
 g0 (sc (hA) sn) a0 func100 (xa n x ho)
theorem ve (n:Nat) (hA:ac prog 67 (p1 (.st .term) fun t=>⟨some (szT t<=n/\cO t=true),none,.bool (allT bn t),[]⟩)):ac prog 100 (pcl (.st .term) 67 fun x=>⟨some (szT x<=n/\cO x=true),none,.bool (!(allT bn) x),[]⟩):=
 uM xG fun x _ ho=>rD n x (ho _ rfl) hA
theorem xH:ar prog 161:=ee func161
theorem rE (n:Nat) (l:List Trm)  (hl:Wf (.lst (.st .term)) l) (ho:∀x∈l,szT x<=n/\cO x=true) (hA:ac prog 67 (p1 (.st .term) fun t=>⟨some (szT t<=n/\cO t=true),none,.bool (allT bn t),[]⟩)):aq prog 161 [.lst (.st .term) l none,.fn 100 [.ptr 900 0]] [(900,.box (.fn 67 []))] (⟨some (∀x∈l,szT x<=n/\cO x=true),none,.int .i64 (cK (allT bn) l 0),[]⟩):=
 g0 (sc ((ve n hA)) sn) ⟨[(2,fun S0=>⟨Nat,fun k=>k<=l.length/\cK (allT bn) (l.drop k) k=cK (allT bn) l 0,fun k=>[(8,.int .i64 k)],fun _=>[],fun k=>l.length - k⟩)],[],[]⟩ func161 (xb n l hl ho)
theorem vf (n:Nat) (hA:ac prog 67 (p1 (.st .term) fun t=>⟨some (szT t<=n/\cO t=true),none,.bool (allT bn t),[]⟩)):ac prog 161 (pfc (.lst (.st .term)) 100 67 fun l=>⟨some (∀x∈l,szT x<=n/\cO x=true),none,.int .i64 (cK (allT bn) l 0),[]⟩):=
 lh xH fun l hl ho=>rE n l hl (ho _ rfl) hA
theorem xI:ar prog 99:=ee func99
theorem rF (n:Nat) (l:List Trm)  (ho:∀x∈l,szT x<=n/\cO x=true) (hA:ac prog 67 (p1 (.st .term) fun t=>⟨some (szT t<=n/\cO t=true),none,.bool (allT bn t),[]⟩)):aq prog 99 [.lst (.st .term) l none,.fn 100 [.ptr 900 0]] [(900,.box (.fn 67 []))] (⟨some (∀x∈l,szT x<=n/\cO x=true),none,.bool (!l.all (allT bn)),[]⟩):=
 g0 (sc ((vf n hA)) sn) a0 func99 (xc n l ho)
theorem vg (n:Nat) (hA:ac prog 67 (p1 (.st .term) fun t=>⟨some (szT t<=n/\cO t=true),none,.bool (allT bn t),[]⟩)):ac prog 99 (pfc (.lst (.st .term)) 100 67 fun l=>⟨some (∀x∈l,szT x<=n/\cO x=true),none,.bool (!l.all (allT bn)),[]⟩):=
 lh xI fun l _ ho=>rF n l (ho _ rfl) hA
theorem Dl:ar prog 49:=ee func49
theorem vh (n:Nat) (l:List Trm)  (ho:∀x∈l,szT x<=n/\cO x=true) (hA:ac prog 67 (p1 (.st .term) fun t=>⟨some (szT t<=n/\cO t=true),none,.bool (allT bn t),[]⟩)):aq prog 49 [.lst (.st .term) l none,.fn 67 []] [] (⟨some (∀x∈l,szT x<=n/\cO x=true),none,.bool (l.all (allT bn)),[]⟩):=
 g0 (sc ((vg n hA)) sn) a0 func49 (CJ n l ho)
theorem A4 (n:Nat) (hA:ac prog 67 (p1 (.st .term) fun t=>⟨some (szT t<=n/\cO t=true),none,.bool (allT bn t),[]⟩)):ac prog 49 (pf (.lst (.st .term)) 67 fun l=>⟨some (∀x∈l,szT x<=n/\cO x=true),none,.bool (l.all (allT bn)),[]⟩):=
 oZ Dl fun l _ ho=>vh n l (ho _ rfl) hA
theorem tA:ar prog 67:=ee func67
theorem vi (n:Nat) (t:Trm) (ho:szT t<=n+1/\cO t=true) (hE:ac prog 49 (pf (.lst (.st .term)) 67 fun l=>⟨some (∀x∈l,szT x<=n/\cO x=true),none,.bool (l.all (allT bn)),[]⟩)):aq prog 67 [.st .term t] [] (⟨some (szT t<=n+1/\cO t=true),none,.bool (allT bn t),[]⟩):=
 g0 (sc Dk (sc (hE) sn)) a0 func67 (CK n t ho)
theorem rG:∀n:Nat,ac prog 67 (p1 (.st .term) fun t=>⟨some (szT t<=n/\cO t=true),none,.bool (allT bn t),[]⟩)
 | 0=>b6 tA fun t _ ho=>absurd (ho _ rfl).1 (by have:=Bp t;omega)
 | n+1=>b6 tA fun t _ ho=>vi n t (ho _ rfl) (A4 n (rG n))
theorem vj (x:Trm) (ho:cO x=true) :aq prog 35 [.st .term x] [] (⟨some (cO x=true),none,.int .i64 (fy x),[]⟩):=
 g0 (sc (rC (szT x)) (sc (rG (szT x)) sn)) a0 func35 (CL x ho)
theorem A5:ac prog 35 (p1 (.st .term) fun t=>⟨some (cO t=true),none,.int .i64 (fy t),[]⟩):=
 b6 (ee func35) fun t _ ho=>vj t (ho _ rfl)
theorem oA:ac prog 80 (pLn fun s p n k=>⟨some (s.length<=4096/\0<=p/\p<=(s.length:Int)/\0<=k/\k<=2),none,.int .u8 (bAt s (p+k)),[]⟩):=
 IM (ee func80) fun s p n k ho=>g0 sn a0 func80 (FN s p n k (ho _ rfl))
theorem G9:ac prog 133 (p1 (.int .u8) fun c=>.ret (.bool (aF c))):=
 b6 (ee func133) fun c _ _=>g0 (sc jH (sc jI (sc oy sn))) a0 func133 (HJ c)
theorem Dm:ac prog 82 (p1 (.int .u8) fun c=>.ret (.bool (cd c))):=
 b6 (ee func82) fun c _ _=>g0 sn a0 func82 (FO c)
theorem A6:ac prog 194 (p1 (.int .u8) fun c=>.ret (.bool (aN c))):=
 b6 (ee func194) fun c _ _=>g0 sn a0 func194 (CM c)
theorem A7:ac prog 81 (pLf 128 fun s p n=>⟨some (s.length<=4096/\0<=p/\p<=(s.length:Int)),none,.str (cut s p (p+ae bA s p)),[(900,.box (.agg [.str s,.int .i64 (p+ae bA s p)]))]⟩):=
 uO (ee func81) fun s p n ho=>g0 (sc rv sn) ⟨[(2,fun S0=>⟨Nat,fun k=>p+k<=(s.length:Int)/\ae bA s p=k+ae bA s (p+k),fun _=>[],fun k=>[(900,.box (.agg [.str s,.int .i64 (p+(k:Int))]))],fun k=>s.length - k⟩)],[],[]⟩ func81 (CN s p n (ho _ rfl))
theorem A8:ac prog 81 (pLf 133 fun s p n=>⟨some (s.length<=4096/\0<=p/\p<=(s.length:Int)),none,.str (cut s p (p+ae aF s p)),[(900,.box (.agg [.str s,.int .i64 (p+ae aF s p)]))]⟩):=
 uO (ee func81) fun s p n ho=>g0 (sc G9 sn) ⟨[(2,fun S0=>⟨Nat,fun k=>p+k<=(s.length:Int)/\ae aF s p=k+ae aF s (p+k),fun _=>[],fun k=>[(900,.box (.agg [.str s,.int .i64 (p+(k:Int))]))],fun k=>s.length - k⟩)],[],[]⟩ func81 (CO s p n (ho _ rfl))
theorem A9:ac prog 81 (pLf 82 fun s p n=>⟨some (s.length<=4096/\0<=p/\p<=(s.length:Int)),none,.str (cut s p (p+ae cd s p)),[(900,.box (.agg [.str s,.int .i64 (p+ae cd s p)]))]⟩):=
 uO (ee func81) fun s p n ho=>g0 (sc Dm sn) ⟨[(2,fun S0=>⟨Nat,fun k=>p+k<=(s.length:Int)/\ae cd s p=k+ae cd s (p+k),fun _=>[],fun k=>[(900,.box (.agg [.str s,.int .i64 (p+(k:Int))]))],fun k=>s.length - k⟩)],[],[]⟩ func81 (CP s p n (ho _ rfl))
theorem Aa:ac prog 81 (pLf 194 fun s p n=>⟨some (s.length<=4096/\0<=p/\p<=(s.length:Int)),none,.str (cut s p (p+ae aN s p)),[(900,.box (.agg [.str s,.int .i64 (p+ae aN s p)]))]⟩):=
 uO (ee func81) fun s p n ho=>g0 (sc A6 sn) ⟨[(2,fun S0=>⟨Nat,fun k=>p+k<=(s.length:Int)/\ae aN s p=k+ae aN s (p+k),fun _=>[],fun k=>[(900,.box (.agg [.str s,.int .i64 (p+(k:Int))]))],fun k=>s.length - k⟩)],[],[]⟩ func81 (CQ s p n (ho _ rfl))
theorem Ab:ac prog 123 (p1 .str fun s=>⟨some (s.length<=4096),none,.tup [.undef,.st .fault (px s)],[]⟩):=
 b6 (ee func123) fun s _ ho=>g0 (sc (rf) sn) ⟨[(3,fun S0=>⟨Nat × List Int,fun y=>y.1<=s.length/\y.2.length<=y.1/\cU s=gh s y.1,fun y=>[(4,.lst (.int .i64) y.2 (some 10)),(5,.int .i64 y.1)],fun y=>[(10,.tail (.int .i64) y.2.length)],fun y=>s.length - y.1⟩)],[],[]⟩ func123 (CR s (ho _ rfl))
theorem pl:ac prog 191 (p1 .str fun s=>.ret (.bool (bO s))):=
 b6 (ee func191) fun s _ _=>g0 (sc (wQ) sn) a0 func191 (zF s)
theorem Dn:ac prog 223 (p1 .str fun s=>.ret (.bool (df s))):=
 b6 (ee func223) fun s hs _=>g0 (sc pl sn) ⟨[(4,fun S0=>⟨Nat,fun k=>k<=s.length/\(s.all fun c=>gW (bI c))=(s.drop k).all fun c=>gW (bI c),fun k=>[(22,.int .i64 k)],fun _=>[],fun k=>s.length - k⟩)],[],[]⟩ func223 (FQ s hs)
theorem Ac:ac prog 192 (p1 (.st .version) fun v=>.ret (.int .i64 (bv v))):=
 b6 (ee func192) fun v hv _=>g0 (sc (th) (sc Dn sn)) ⟨[(2,fun S0=>⟨Nat,fun k=>k<=3/\([v.major,v.minor,v.patch].take k).all qW=true,fun k=>[(15,.int .i64 k)],fun _=>[],fun k=>3 - k⟩),(11,fun S0=>⟨Nat,fun k=>k<=(splitB 46 v.pre).length/\((splitB 46 v.pre).take k).all df=true,fun k=>[(37,.int .i64 k)],fun _=>[],fun k=>(splitB 46 v.pre).length - k⟩)],[],[]⟩ func192 (CS v hv)
theorem Ad:ac prog 135 (p1 .str fun s=>⟨some (s.length<=4096),none,.tup [.st .version (bY s).1,.int .i64 (bY s).2],[]⟩):=
 b6 (ee func135) fun s _ ho=>g0 (sc (Hp) (sc (th) (sc pl (sc (wP) (sc Ac sn))))) ⟨[(7,fun S0=>⟨Nat,fun k=>k<=3/\((splitB 46 (aD s)).take k).all eH=true,fun k=>[(34,.int .i64 k)],fun k=>[(8,.box (.row (.int .i64) (gB s k)))],fun k=>3 - k⟩)],[],[]⟩ func135 (CT s (ho _ rfl))
theorem oB:ac prog 124 (pC2 fun s c n e a=>⟨some (n=c.out.length),none,.bool false,[(900,.box (.agg [.str s,.int .i64 ((ek e a c).2).pos,.lst (.st .token) ((ek e a c).2).out (some 901),.int .i64 ((ek e a c).2).err,.int .i64 ((ek e a c).2).fat])),(901,.tail (.st .token) ((ek e a c).2).out.length)]⟩):=
 EZ (ee func124) fun s c n e a ho=>g0 sn a0 func124 (FR s c n e a (ho _ rfl))
theorem rH:ac prog 83 (pC2 fun s c n a b=>⟨some (n=c.out.length/\s.length<=4096/\0<=a/\a<=b/\b<=(s.length:Int)),none,.bool (dB s a b c).1,[(900,.box (.agg [.str s,.int .i64 ((dB s a b c).2).pos,.lst (.st .token) ((dB s a b c).2).out (some 901),.int .i64 ((dB s a b c).2).err,.int .i64 ((dB s a b c).2).fat])),(901,.tail (.st .token) ((dB s a b c).2).out.length)]⟩):=
 EZ (ee func83) fun s c n a b ho=>g0 (sc Ab (sc oB sn)) a0 func83 (CU s c n a b (ho _ rfl))
theorem Ga:ac prog 125 (pCt fun s c n k t fr=>⟨some (n=c.out.length/\(n+1) *32<=140737488355328),none,.bool true,[(902,.box (.agg [.str s,.int .i64 ((fT k t fr c).2).pos,.lst (.st .token) ((fT k t fr c).2).out (some 903),.int .i64 ((fT k t fr c).2).err,.int .i64 ((fT k t fr c).2).fat])),(903,.tail (.st .token) (n+1))]⟩):=
 IN (ee func125) fun s c n k t fr ho=>g0 sn a0 func125 (HK s c n k t fr (ho _ rfl))
theorem xJ:ac prog 136 (pC0 fun s c n=>⟨some (n=c.out.length/\n<=4096/\s.length<=4096/\0<=c.pos/\c.pos<=(s.length:Int)/\c.pos < (s.length:Int)),none,.tup [.str (cH s c).1,.bool (cH s c).2.1],[(900,.box (.agg [.str s,.int .i64 ((cH s c).2.2).pos,.lst (.st .token) ((cH s c).2.2).out (some 901),.int .i64 ((cH s c).2.2).err,.int .i64 ((cH s c).2.2).fat])),(901,.tail (.st .token) ((cH s c).2.2).out.length)]⟩):=
 EY (ee func136) fun s c n ho=>g1 nn (fun f=>if Nat.beq f 80 || Nat.beq f 81 then [some 2] else []) nn nn nn (sc oA (sc oB (sc (sx) (sc Aa (sc rH sn))))) ⟨[(4,fun S0=>⟨Nat × Str × SC,fun y=>y.2.2.out=c.out/\y.2.2.err=c.err/\y.2.2.fat=c.fat/\0<=y.2.2.pos/\y.2.2.pos<=(s.length:Int)/\(y.2.1.length:Int)<=y.2.2.pos/\(s.length:Int) < y.2.2.pos+(y.1:Int)/\cH s c=cD s c.pos y.1 y.2.1 y.2.2,fun y=>[(5,.lst (.int .u8) (aJ y.2.1) (some 701))],fun y=>[(900,.box (.agg [.str s,.int .i64 (y.2.2).pos,.lst (.st .token) (y.2.2).out (some 901),.int .i64 (y.2.2).err,.int .i64 (y.2.2).fat])),(701,.tail (.int .u8) (aJ y.2.1).length)],fun y=>y.1⟩)],[],[]⟩ func136 (zG s c n (ho _ rfl))
theorem Gb:ac prog 137 (p1 .str fun s=>.ret (.bool (fS s))):=
 b6 (ee func137) fun s _ _=>g0 (sc (uQ) sn) a0 func137 (HL s)
theorem Ae:ac prog 84 (pC0 fun s c n=>⟨some (n=c.out.length/\n<=4096/\s.length<=4096/\0<=c.pos/\c.pos<=(s.length:Int)/\c.pos < (s.length:Int)),none,.bool (aX s c).1,[(900,.box (.agg [.str s,.int .i64 ((aX s c).2).pos,.lst (.st .token) ((aX s c).2).out (some 901),.int .i64 ((aX s c).2).err,.int .i64 ((aX s c).2).fat])),(901,.tail (.st .token) ((aX s c).2).out.length)]⟩):=
 EY (ee func84) fun s c n ho=>g1 nn (fun f=>if Nat.beq f 80 || Nat.beq f 81 then [some 2] else []) nn nn (fun d=>Nat.beq d 21) (sc oA (sc jH (sc jI (sc A7 (sc xg (sc Ga (sc lx (sc oz (sc oB (sc oy (sc A8 (sc (wQ) (sc Ad (sc xJ (sc Gb sn))))))))))))))) ⟨[(24,fun S0=>⟨Nat,fun k=>k<=2/\(k<=1→ff s c.pos 2=false)/\(k=0→ff s c.pos 1=false),fun k=>[(12,.int .i64 k)],fun k=>[],fun k=>k⟩)],[],[]⟩ func84 (CV s c n (ho _ rfl))
theorem xK:ac prog 41 (p1 .str fun s=>.ret (.tup [.lst (.st .token) (aB s).1 none,.st .fault (aB s).2])):=
 b6 (ee func41) fun s hs _=>g1 nn (fun f=>if Nat.beq f 80 || Nat.beq f 81 then [some 2] else []) nn nn nn (sc oA (sc A9 (sc rH (sc Ae sn)))) ⟨[(4,fun S0=>⟨Nat × SC,fun y=>(y.2.out.length:Int)<=y.2.pos/\(s.length:Int) < y.2.pos+(y.1:Int)/\0<=y.2.pos/\y.2.pos<=(s.length:Int)/\aB s=fe s y.1 y.2,fun y=>[],fun y=>[(14,.box (.agg [.str s,.int .i64 (y.2).pos,.lst (.st .token) (y.2).out (some 701),.int .i64 (y.2).err,.int .i64 (y.2).fat])),(701,.tail (.st .token) y.2.out.length)],fun y=>y.1⟩)],[],[]⟩ func41 (HM s hs)
theorem Do:ac prog 15 (p2 (.lst (.st .token)) (.int .i64) fun l a=>⟨some (dr l),none,.tup [.st .term (cg l a).1,.int .i64 (cg l a).2.1,.st .fault (cg l a).2.2],[]⟩):=
 dN (ee func15) fun l a hl _ ho=>g0 (sc tv (sc dQ (sc fV (sc (xw 5000) (sc A5 (sc gZ sn)))))) a0 func15 (FSq l a hl (ho _ rfl))
theorem vk:ac prog 18 (p1 .str fun s=>.ret (.tup [.st .shape (fA s).1,.st .fault (fA s).2])):=
 b6 (ee func18) fun s _ _=>g0 (sc xK (sc xx (sc rB sn))) a0 func18 (xe s)
theorem vl:ac prog 20 (p1 .str fun s=>.ret (.tup [.st .term (ox s).1,.st .fault (ox s).2])):=
 b6 (ee func20) fun s _ _=>g0 (sc xK (sc Do (sc rB sn))) a0 func20 (xf s)
end Go.AL.Seat
end
