/- The contracts of the functions. No condition. -/
import Derived.Test.YtdmbjejhifjhbaaGreatDoorT19
set_option linter.unusedVariables false
set_option linter.unusedSimpArgs false
set_option linter.unnecessarySimpa false
set_option linter.deprecated false
set_option linter.unusedSectionVars false
set_option maxRecDepth 100000
section
open Go Go.AL Go.Proofs Go.Shelf Go.Pd
namespace Go.AL.Seat
open Go.Proofs.Tryz
variable [Tabs]
def nn:Nat→Bool:=fun _=>false
def cf (k:Nat→Bool) (l:Nat→List (Option Nat)) (p r m:Nat→Bool) (s:Nat→List AV→List (Nat × SObj)→Option Ans):Cfg:=⟨tbl,s,k,l,p,r,m⟩
def a0:An:=⟨[],[],[]⟩
theorem g1 (k:Nat→Bool) (l:Nat→List (Option Nat)) (p r m:Nat→Bool) {s:Nat→List AV→List (Nat × SObj)→Option Ans} (hS:dG prog s) (a:An) {f:Nat} {fn:Func} (hf:Tryz.prog.funcs[f]?=some fn)
  {args:List AV} {S:List (Nat × SObj)} {A:Ans} {Q:Prop} (q:Q) (h:fwp (cf k l p r m s) a fn args S A=Q:=by kernel_rfl):ar prog f args S A:=D5 (C:=cf k l p r m s) mixed DF hS hf q h
theorem g0 {s:Nat→List AV→List (Nat × SObj)→Option Ans} (hS:dG prog s) (a:An) {f:Nat} {fn:Func} (hf:Tryz.prog.funcs[f]?=some fn)
  {args:List AV} {S:List (Nat × SObj)} {A:Ans} {Q:Prop} (q:Q) (h:fwp (cf nn (fun _=>[]) nn nn nn s) a fn args S A=Q:=by kernel_rfl):ar prog f args S A:=D5 (C:=cf nn (fun _=>[]) nn nn nn s) mixed DF hS hf q h
theorem sc {f:Nat} {g:Pat} {l:List (Nat × Pat)} (h:ad prog f g) (hl:dG prog (lO l)):dG prog (lO ((f,g) ::l)):=qo h hl
theorem sn:dG prog (lO []):=sh
theorem ee {f:Nat} {fn:Func} (h:Tryz.prog.funcs[f]?=some fn) (e:(fn.body.isNone || (fn.name == "runtime.NumGoroutine"))=false:=by kernel_rfl):au prog f:=au.mk' h e
variable [SeatLaid]
theorem jr:ad prog 126 (p1 (.int .u8) fun c=>.ret (.bool (bq c))):=
 be (ee func126) fun c _ _=>g0 sn a0 func126 (DM c)
theorem js:ad prog 127 (p1 (.int .u8) fun c=>.ret (.bool (bw c))):=
 be (ee func127) fun c _ _=>g0 sn a0 func127 (DN c)
theorem o8:ad prog 132 (p1 (.int .u8) fun c=>.ret (.bool (aK c))):=
 be (ee func132) fun c _ _=>g0 sn a0 func132 (DO c)
theorem qR:ad prog 128 (p1 (.int .u8) fun c=>.ret (.bool (bp c))):=
 be (ee func128) fun c _ _=>g0 (sc jr (sc js (sc o8 sn))) a0 func128 (Fw c)
theorem yp:ad prog 181 (pf .str 126 fun s=>.ret (.bool (di bq s))):=
 oE (ee func181) fun s hs _=>g0 (sc jr (sc js (sc qR sn))) ⟨[(4,fun S0=>⟨Nat,fun k=>k<=s.length/\di bq s=(s.drop k).all fun c=>bp (bI c),fun k=>[(22,.int .i64 k)],fun _=>[],fun k=>s.length - k⟩)],[],[]⟩ func181 (Be s hs)
theorem yq:ad prog 181 (pf .str 127 fun s=>.ret (.bool (di bw s))):=
 oE (ee func181) fun s hs _=>g0 (sc jr (sc js (sc qR sn))) ⟨[(4,fun S0=>⟨Nat,fun k=>k<=s.length/\di bw s=(s.drop k).all fun c=>bp (bI c),fun k=>[(22,.int .i64 k)],fun _=>[],fun k=>s.length - k⟩)],[],[]⟩ func181 (Bf s hs)
theorem wb:ad prog 129 (p1 .str fun s=>.ret (.bool (iQ s))):=
 be (ee func129) fun s _ _=>g0 sn a0 func129 (Fx s)
theorem kT:ad prog 130 (p1 .str fun s=>.ret (.bool (aQ s))):=
 be (ee func130) fun s _ _=>g0 (sc yp (sc wb sn)) a0 func130 (Fy s)
theorem o9:ad prog 131 (p1 .str fun s=>.ret (.bool (dq s))):=
 be (ee func131) fun s _ _=>g0 (sc yq sn) a0 func131 (DP s)
theorem yr:ad prog 163 (p2 (.lst .str) .str fun a v=>.ret (.int .i64 (fD a v 0))):=
 iA (ee func163) fun a v ha _ _=>g0 sn ⟨[(2,fun S0=>⟨Nat,fun k=>k<=a.length/\fD a v 0=fD (a.drop k) v k,fun k=>[(8,.int .i64 k)],fun _=>[],fun k=>a.length - k⟩)],[],[]⟩ func163 (Bg a v ha)
theorem rM:ad prog 116 (p2 (.lst .str) .str fun a v=>.ret (.bool (decide (v∈a)))):=
 iA (ee func116) fun a v _ _ _=>g0 (sc yr sn) a0 func116 (ua a v)
theorem BH:ad prog 154 (p1 .str fun s=>.ret (.bool (mi s))):=
 be (ee func154) fun s _ _=>g0 sn a0 func154 (DQ s)
theorem qS:ad prog 201 (p1 (.lst .str) fun a=>⟨none,none,.fn 230 [.ptr 1 0],[(1,.box (.lst .str a none))]⟩):=
 be (ee func201) fun a _ _=>g0 sn a0 func201 (Bh a)
theorem BI:ad prog 153 (p1 (.st .shape) fun s=>⟨some (s.parts.length *16<=140737488355328),none,.bool (f5 s),[]⟩):=
 be (ee func153) fun s hs ho=>g0 (sc kT (sc qS (sc (qG) (sc (oJ) sn)))) ⟨[(4,fun S0=>⟨Nat,fun k=>k<=s.names.length/\s.names.length=s.parts.length/\f5 s=(((s.names.drop k).all aQ) && decide s.names.Nodup),fun k=>[(16,.int .i64 k)],fun _=>[],fun k=>s.names.length - k⟩)],[],[]⟩ func153 (DR s hs (ho _ rfl))
theorem Ei:ad prog 92 (p1 (.st .shape) fun s=>⟨some (s.parts.length *16<=140737488355328),none,.bool (dA s),[]⟩):=
 be (ee func92) fun s hs ho=>g0 (sc BI (sc o9 (sc kT (sc BH sn)))) a0 func92 (Fz s hs (ho _ rfl))
theorem qT:au prog 91:=ee func91
theorem rN (n:Nat) (s:AL.Shape) (hs:Wf (.st .shape) s) (hn:sz s<=n+1) (hb:n<=1000000) (hA:ad prog 91 (pf (.st .shape) 92 fun s=>⟨some (sz s<=n),none,.bool (allS dA s),[]⟩)):ar prog 91 [.st .shape s,.fn 92 []] [] (.ret (.bool (allS dA s))):=
 g0 (sc Ei (sc (hA) sn)) ⟨[(4,fun S0=>⟨Nat,fun k=>k<=s.parts.length/\allS dA s=allL dA (s.parts.drop k),fun k=>[(14,.int .i64 k)],fun _=>[],fun k=>s.parts.length - k⟩)],[],[]⟩ func91 (yf n s hs hn hb)
theorem wc:∀n:Nat,n<=1000000→ad prog 91 (pf (.st .shape) 92 fun s=>⟨some (sz s<=n),none,.bool (allS dA s),[]⟩):=by
 intro n
 induction n with
 | zero=>exact fun _=>oE qT fun a hs ho=>absurd (ho _ rfl) (by have:=qq a;omega)
 | succ n ih=>exact fun hb=>oE qT fun a hs ho=>rN n a hs (ho _ rfl) (by omega) (ih (by omega))
theorem Ej:ad prog 152 (tP 146):=
 xR (ee func152) fun c hc=>g0 sn a0 func152 (FA c hc)
theorem Ae:au prog 151:=ee func151
theorem yt (n:Nat) (s:AL.Shape) (l c:Int) (hs:Wf (.st .shape) s) (hn:sz s<=n+1) (hc:0<=c/\c<=400/\1<=l/\l<=c+1) (hA:ad prog 151 (pg 146 152 n)):ar prog 151 [.st .shape s,.int .i64 l,.fn 152 [.ptr 900 0]] [(900,.box (.int .i64 c))] (Da 146 s l c (sz s<=n+1)):=
 g0 (sc Ej (sc (hA) sn)) ⟨[(4,fun S0=>⟨Nat × Int,fun x=>x.1<=s.parts.length/\c+1+(szL (s.parts.take x.1):Int)<=400/\deepL (s.parts.drop x.1) (l+1) x.2=deepS s l,fun x=>[(7,.int .i64 x.2),(16,.int .i64 x.1)],fun x=>[(900,.box (.int .i64 (c+1+(szL (s.parts.take x.1):Int))))],fun x=>s.parts.length - x.1⟩)],[],[]⟩ func151 (FB n s l c hs hn hc)
theorem Ek:∀n:Nat,ad prog 151 (pg 146 152 n):=by
 intro n
 induction n with
 | zero=>exact qr Ae fun s l c hs hn hc=>absurd hn (by have:=qq s;omega)
 | succ n ih=>exact qr Ae fun s l c hs hn hc=>yt n s l c hs hn hc ih
theorem wd (s:AL.Shape) (hs:Wf (.st .shape) s) :ar prog 90 [.st .shape s] [] (.ret (.tup [.int .i64 (if sz s<=400 then (sz s:Int) else 401),.int .i64 (if sz s<=400 then deepS s 1 else 0),.bool (decide (sz s<=400))])):=
 fwpR_sound (C:=⟨tbl,_,fun _=>false,fun _=>[],fun _=>false,fun _=>false,fun _=>false⟩) (ann:=⟨[],[],[]⟩) (annC:=⟨[],[],[]⟩) mixed DF (qo (Ek (sz s)) (sh)) func90 func150 (enters_of func150 (by kernel_rfl) rfl) (@Eq.mpr _ _ (by kernel_rfl) (DS s hs))
theorem BJ:ad prog 90 (p1 (.st .shape) fun s=>.ret (.tup [.int .i64 (if sz s<=400 then (sz s:Int) else 401),.int .i64 (if sz s<=400 then deepS s 1 else 0),.bool (decide (sz s<=400))])):=
 be (ee func90) fun s hs _=>wd s hs
theorem sw:ad prog 46 (p1 (.st .shape) fun s=>.ret (.int .i64 (dO s))):=
 be (ee func46) fun s _ _=>g0 (sc (BJ) (sc (wc 400 (by decide)) sn)) a0 func46 (DT s)
theorem dF:ad prog 29 (pP0 fun s=>⟨none,none,.bool (b9 s),[(900,.box (.st .par (s)))]⟩):=
 iC (ee func29) (fun _=>rfl) (fun _=>by simp [am]) fun s ho=>g0 sn a0 func29 (GK s)
theorem fL:ad prog 33 (pP0 fun s=>⟨some (a8 s),none,.st .token (ao s),[(900,.box (.st .par (s)))]⟩):=
 iC (ee func33) (fun _=>rfl) (fun _=>by simp [am]) fun s ho=>g0 sn a0 func33 (FC s (ho _ rfl))
theorem gG:ad prog 36 (pP2 (.int .i64) (.int .i64) fun s e a=>⟨none,none,.tup [],[(900,.box (.st .par (cy e a s)))]⟩):=
 Gy (ee func36) (fun _ _ _=>rfl) (fun _ _ _=>by simp [am]) fun s e a hwe hwa ho=>g0 (sc dF sn) a0 func36 (FD s e a)
theorem GP:ad prog 115 (pP1 .str fun s t=>⟨some (a8 s),none,.bool (isF t s),[(900,.box (.st .par (s)))]⟩):=
 qt (ee func115) (fun _ _=>rfl) (fun _ _=>by simp [am]) fun s t hwt ho=>g0 (sc fL (sc dF sn)) a0 func115 (H2 s t (ho _ rfl))
theorem f9:ad prog 59 (pP1 .str fun s t=>⟨some (a8 s),none,.bool (isF t s),[(900,.box (.st .par (cl t s)))]⟩):=
 qt (ee func59) (fun _ _=>rfl) (fun _ _=>by simp [am]) fun s t hwt ho=>g0 (sc GP sn) a0 func59 (GL s t (ho _ rfl))
theorem cN:ad prog 58 (pP1 .str fun s t=>⟨some (a8 s),none,.tup [],[(900,.box (.st .par (aj t s)))]⟩):=
 qt (ee func58) (fun _ _=>rfl) (fun _ _=>by simp [am]) fun s t hwt ho=>g0 (sc f9 (sc fL (sc gG sn))) a0 func58 (FE s t (ho _ rfl))
theorem jt:ad prog 63 (pP1 (.int .i64) fun s k=>⟨some (a8 s/\¬k=0),none,.st .token (b6 k s).1,[(900,.box (.st .par ((b6 k s).2)))]⟩):=
 qt (ee func63) (fun _ _=>rfl) (fun _ _=>by simp [am]) fun s k hwk ho=>g0 (sc fL (sc dF (sc gG sn))) a0 func63 (FF s k (ho _ rfl))
theorem lu:ad prog 62 (pP1 (.lst .str) fun s ns=>⟨some (a8 s),none,.str (bP ns s).1,[(900,.box (.st .par ((bP ns s).2)))]⟩):=
 qt (ee func62) (fun _ _=>rfl) (fun _ _=>by simp [am]) fun s ns hwns ho=>g0 (sc jt (sc dF (sc gG (sc rM sn)))) a0 func62 (DU s ns (ho _ rfl) hwns)
theorem BK:ad prog 107 (p2 .str .str fun p n=>.ret (.st .shape (mj p n))):=
 iA (ee func107) fun p n _ _ _=>g0 sn a0 func107 (DV p n)
theorem El:au prog 106:=ee func106
theorem we (n:Nat) (s:Par)  (ho:a8 s/\rem (aj [58] s) < n) (hS:ad prog 53 (pP0 fun s=>⟨some (a8 s/\rem s < n),none,.st .shape (ag n s).1,[(900,.box (.st .par (ag n s).2))]⟩)):ar prog 106 [.ptr 900 0] [(900,.box (.st .par s))] (⟨some (a8 s/\rem (aj [58] s) < n),none,.st .shape (ag n (aj [58] s)).1,[(900,.box (.st .par ((ag n (aj [58] s)).2)))]⟩):=
 g0 (sc cN (sc (hS) sn)) a0 func106 (DW n s ho)
theorem BL (n:Nat) (hS:ad prog 53 (pP0 fun s=>⟨some (a8 s/\rem s < n),none,.st .shape (ag n s).1,[(900,.box (.st .par (ag n s).2))]⟩)):ad prog 106 (pP0 fun s=>⟨some (a8 s/\rem (aj [58] s) < n),none,.st .shape (ag n (aj [58] s)).1,[(900,.box (.st .par ((ag n (aj [58] s)).2)))]⟩):=
 iC El (fun _=>rfl) (fun _=>by simp [am]) fun s ho=>we n s (ho _ rfl) hS
theorem BM:au prog 105:=ee func105
theorem uc (n:Nat) (x:Shape) (s:Par) (hi:a8 s) (h0:s.err=0) (hn:rem s<=n) (hl:x.names.length+x.parts.length<=100000) (hT:ad prog 106 (pP0 fun s=>⟨some (a8 s/\rem (aj [58] s) < n),none,.st .shape (ag n (aj [58] s)).1,[(900,.box (.st .par (ag n (aj [58] s)).2))]⟩)):ar prog 105 [.ptr 900 0,.ptr 901 0] (De x (.st .par s) x.names.length x.parts.length) (⟨some (a8 s/\s.err=0/\rem s<=n/\x.names.length=x.names.length/\x.parts.length=x.parts.length/\x.names.length+x.parts.length<=100000),none,.tup [],[(900,.box (.ptr 902 0)),(901,.box (.agg [.int .i64 ((ap (ag n) x s).1).kind,.str ((ap (ag n) x s).1).pkg,.str ((ap (ag n) x s).1).name,.lst .str ((ap (ag n) x s).1).names (some 903),.lst (.st .shape) ((ap (ag n) x s).1).parts (some 904)])),(902,.box (.st .par (ap (ag n) x s).2)),(903,.tail .str (ap (ag n) x s).1.names.length),(904,.tail (.st .shape) (ap (ag n) x s).1.parts.length)]⟩):=
 g1 nn (fun _=>[]) (fun d=>Nat.beq d 21) nn nn (sc lu (sc (hT) sn)) a0 func105 (Bi n x s hi h0 hn hl)
theorem yu (n:Nat) (hT:ad prog 106 (pP0 fun s=>⟨some (a8 s/\rem (aj [58] s) < n),none,.st .shape (ag n (aj [58] s)).1,[(900,.box (.st .par (ag n (aj [58] s)).2))]⟩)):ad prog 105 (qu fun x s m m'=>⟨some (a8 s/\s.err=0/\rem s<=n/\m=x.names.length/\m'=x.parts.length/\m+m'<=100000),none,.tup [],[(900,.box (.ptr 902 0)),(901,.box (.agg [.int .i64 ((ap (ag n) x s).1).kind,.str ((ap (ag n) x s).1).pkg,.str ((ap (ag n) x s).1).name,.lst .str ((ap (ag n) x s).1).names (some 903),.lst (.st .shape) ((ap (ag n) x s).1).parts (some 904)])),(902,.box (.st .par (ap (ag n) x s).2)),(903,.tail .str (ap (ag n) x s).1.names.length),(904,.tail (.st .shape) (ap (ag n) x s).1.parts.length)]⟩):=
 AY BM (fun _ _ _ _=>rfl) (fun _ _ _ _=>by simp [am]) fun x s m m' ho=>by
  obtain ⟨q1,q2,q3,q4,q5,q6⟩:=ho _ rfl
  subst q4 q5
  exact uc n x s q1 q2 q3 q6 hT
theorem Em:au prog 108:=ee func108
theorem wg (n:Nat) (x:Shape) (s:Par) (hi:a8 s) (hn:rem s < n) (hl:x.parts.length<=100000) (hS:ad prog 53 (pP0 fun s=>⟨some (a8 s/\rem s < n),none,.st .shape (ag n s).1,[(900,.box (.st .par (ag n s).2))]⟩)):ar prog 108 [.ptr 900 0,.ptr 901 0] (Gi x (.st .par s) x.parts.length) (⟨some (a8 s/\rem s < n/\x.parts.length=x.parts.length/\x.parts.length<=100000),none,.tup [],[(900,.box (.agg [.int .i64 ((aw (ag n) x s).1).kind,.str ((aw (ag n) x s).1).pkg,.str ((aw (ag n) x s).1).name,.nils,.lst (.st .shape) ((aw (ag n) x s).1).parts (some 902)])),(901,.box (.ptr 903 0)),(902,.tail (.st .shape) (aw (ag n) x s).1.parts.length),(903,.box (.st .par (aw (ag n) x s).2))]⟩):=
 g1 nn (fun _=>[]) (fun d=>Nat.beq d 8) nn nn (sc (hS) sn) a0 func108 (DX n x s hi hn hl)
theorem BN (n:Nat) (hS:ad prog 53 (pP0 fun s=>⟨some (a8 s/\rem s < n),none,.st .shape (ag n s).1,[(900,.box (.st .par (ag n s).2))]⟩)):ad prog 108 (vw fun x s m=>⟨some (a8 s/\rem s < n/\m=x.parts.length/\m<=100000),none,.tup [],[(900,.box (.agg [.int .i64 ((aw (ag n) x s).1).kind,.str ((aw (ag n) x s).1).pkg,.str ((aw (ag n) x s).1).name,.nils,.lst (.st .shape) ((aw (ag n) x s).1).parts (some 902)])),(901,.box (.ptr 903 0)),(902,.tail (.st .shape) (aw (ag n) x s).1.parts.length),(903,.box (.st .par (aw (ag n) x s).2))]⟩):=
 Df Em (fun _ _ _=>rfl) (fun _ _ _=>by simp [am]) fun x s m hx ho=>by
  obtain ⟨q1,q2,q3,q4⟩:=ho _ rfl
  subst q3
  exact wg n x s q1 q2 q4 hS
theorem En:au prog 60:=ee func60
theorem wh (n:Nat) (b e:Str) (k:Int) (s:Par) (hi:a8 s) (hn:rem s<=n) (hC:ad prog 105 (qu fun x s m m'=>⟨some (a8 s/\s.err=0/\rem s<=n/\m=x.names.length/\m'=x.parts.length/\m+m'<=100000),none,.tup [],[(900,.box (.ptr 902 0)),(901,.box (.agg [.int .i64 ((ap (ag n) x s).1).kind,.str ((ap (ag n) x s).1).pkg,.str ((ap (ag n) x s).1).name,.lst .str ((ap (ag n) x s).1).names (some 903),.lst (.st .shape) ((ap (ag n) x s).1).parts (some 904)])),(902,.box (.st .par (ap (ag n) x s).2)),(903,.tail .str (ap (ag n) x s).1.names.length),(904,.tail (.st .shape) (ap (ag n) x s).1.parts.length)]⟩)):ar prog 60 [.ptr 900 0,.str b,.str e,.fn 105 [.ptr 901 0,.ptr 902 0]] (Dg k (.st .par s)) (⟨some (a8 s/\rem s<=n),none,.tup [],[(900,.box (.st .par (ab b e (ap (ag n)) (⟨k,[],[],[],[]⟩) s).2)),(901,.box (.ptr 900 0)),(902,.box (.agg [.int .i64 ((ab b e (ap (ag n)) (⟨k,[],[],[],[]⟩) s).1).kind,.str ((ab b e (ap (ag n)) (⟨k,[],[],[],[]⟩) s).1).pkg,.str ((ab b e (ap (ag n)) (⟨k,[],[],[],[]⟩) s).1).name,.lst .str ((ab b e (ap (ag n)) (⟨k,[],[],[],[]⟩) s).1).names (some 701),.lst (.st .shape) ((ab b e (ap (ag n)) (⟨k,[],[],[],[]⟩) s).1).parts (some 702)])),(701,.tail .str (ab b e (ap (ag n)) (⟨k,[],[],[],[]⟩) s).1.names.length),(702,.tail (.st .shape) (ab b e (ap (ag n)) (⟨k,[],[],[],[]⟩) s).1.parts.length)]⟩):=
 g0 (sc f9 (sc dF (sc cN (sc (hC) sn)))) ⟨[(1,fun S0=>⟨Nat × Shape × Par,fun y=>a8 y.2.2/\rem y.2.2 < y.1/\rem y.2.2<=n/\y.2.1.names.length+y.1<=5000/\y.2.1.parts.length+y.1<=5000/\bc b e (ap (ag n)) y.1 y.2.1 y.2.2=(ab b e (ap (ag n)) (⟨k,[],[],[],[]⟩) s),fun _=>[],fun y=>[(900,.box (.st .par y.2.2)),(902,.box (.agg [.int .i64 (y.2.1).kind,.str (y.2.1).pkg,.str (y.2.1).name,.lst .str (y.2.1).names (some 701),.lst (.st .shape) (y.2.1).parts (some 702)])),(701,.tail .str y.2.1.names.length),(702,.tail (.st .shape) y.2.1.parts.length)],fun y=>y.1⟩)],[],[]⟩ func60 (DY n b e k s hi hn)
theorem BO (n:Nat) (hC:ad prog 105 (qu fun x s m m'=>⟨some (a8 s/\s.err=0/\rem s<=n/\m=x.names.length/\m'=x.parts.length/\m+m'<=100000),none,.tup [],[(900,.box (.ptr 902 0)),(901,.box (.agg [.int .i64 ((ap (ag n) x s).1).kind,.str ((ap (ag n) x s).1).pkg,.str ((ap (ag n) x s).1).name,.lst .str ((ap (ag n) x s).1).names (some 903),.lst (.st .shape) ((ap (ag n) x s).1).parts (some 904)])),(902,.box (.st .par (ap (ag n) x s).2)),(903,.tail .str (ap (ag n) x s).1.names.length),(904,.tail (.st .shape) (ap (ag n) x s).1.parts.length)]⟩)):ad prog 60 (tS 105 fun b e k s=>⟨some (a8 s/\rem s<=n),none,.tup [],[(900,.box (.st .par (ab b e (ap (ag n)) (⟨k,[],[],[],[]⟩) s).2)),(901,.box (.ptr 900 0)),(902,.box (.agg [.int .i64 ((ab b e (ap (ag n)) (⟨k,[],[],[],[]⟩) s).1).kind,.str ((ab b e (ap (ag n)) (⟨k,[],[],[],[]⟩) s).1).pkg,.str ((ab b e (ap (ag n)) (⟨k,[],[],[],[]⟩) s).1).name,.lst .str ((ab b e (ap (ag n)) (⟨k,[],[],[],[]⟩) s).1).names (some 701),.lst (.st .shape) ((ab b e (ap (ag n)) (⟨k,[],[],[],[]⟩) s).1).parts (some 702)])),(701,.tail .str (ab b e (ap (ag n)) (⟨k,[],[],[],[]⟩) s).1.names.length),(702,.tail (.st .shape) (ab b e (ap (ag n)) (⟨k,[],[],[],[]⟩) s).1.parts.length)]⟩):=
 AZ En (fun _ _ _ _=>rfl) (fun _ _ _ _=>by simp [am]) fun b e k s ho=>wh n b e k s (ho _ rfl).1 (ho _ rfl).2 hC
theorem Eo:au prog 60:=ee func60
theorem wi (n:Nat) (b e:Str) (k:Int) (s:Par) (hi:a8 s) (hn:rem s < n) (hC:ad prog 108 (vw fun x s m=>⟨some (a8 s/\rem s < n/\m=x.parts.length/\m<=100000),none,.tup [],[(900,.box (.agg [.int .i64 ((aw (ag n) x s).1).kind,.str ((aw (ag n) x s).1).pkg,.str ((aw (ag n) x s).1).name,.nils,.lst (.st .shape) ((aw (ag n) x s).1).parts (some 902)])),(901,.box (.ptr 903 0)),(902,.tail (.st .shape) (aw (ag n) x s).1.parts.length),(903,.box (.st .par (aw (ag n) x s).2))]⟩)):ar prog 60 [.ptr 900 0,.str b,.str e,.fn 108 [.ptr 901 0,.ptr 902 0]] (Dh k (.st .par s)) (⟨some (a8 s/\rem s < n),none,.tup [],[(900,.box (.st .par (ab b e (aw (ag n)) (⟨k,[],[],[],[]⟩) s).2)),(901,.box (.agg [.int .i64 ((ab b e (aw (ag n)) (⟨k,[],[],[],[]⟩) s).1).kind,.str ((ab b e (aw (ag n)) (⟨k,[],[],[],[]⟩) s).1).pkg,.str ((ab b e (aw (ag n)) (⟨k,[],[],[],[]⟩) s).1).name,.nils,.lst (.st .shape) ((ab b e (aw (ag n)) (⟨k,[],[],[],[]⟩) s).1).parts (some 702)])),(902,.box (.ptr 900 0)),(702,.tail (.st .shape) (ab b e (aw (ag n)) (⟨k,[],[],[],[]⟩) s).1.parts.length)]⟩):=
 g0 (sc f9 (sc dF (sc cN (sc (hC) sn)))) ⟨[(1,fun S0=>⟨Nat × Shape × Par,fun y=>a8 y.2.2/\rem y.2.2 < y.1/\rem y.2.2 < n/\y.2.1.parts.length+y.1<=5000/\y.2.1.names=[]/\bc b e (aw (ag n)) y.1 y.2.1 y.2.2=(ab b e (aw (ag n)) (⟨k,[],[],[],[]⟩) s),fun _=>[],fun y=>[(900,.box (.st .par y.2.2)),(901,.box (.agg [.int .i64 (y.2.1).kind,.str (y.2.1).pkg,.str (y.2.1).name,.nils,.lst (.st .shape) (y.2.1).parts (some 702)])),(702,.tail (.st .shape) y.2.1.parts.length)],fun y=>y.1⟩)],[],[]⟩ func60 (DZ n b e k s hi hn)
theorem BP (n:Nat) (hC:ad prog 108 (vw fun x s m=>⟨some (a8 s/\rem s < n/\m=x.parts.length/\m<=100000),none,.tup [],[(900,.box (.agg [.int .i64 ((aw (ag n) x s).1).kind,.str ((aw (ag n) x s).1).pkg,.str ((aw (ag n) x s).1).name,.nils,.lst (.st .shape) ((aw (ag n) x s).1).parts (some 902)])),(901,.box (.ptr 903 0)),(902,.tail (.st .shape) (aw (ag n) x s).1.parts.length),(903,.box (.st .par (aw (ag n) x s).2))]⟩)):ad prog 60 (tT 108 fun b e k s=>⟨some (a8 s/\rem s < n),none,.tup [],[(900,.box (.st .par (ab b e (aw (ag n)) (⟨k,[],[],[],[]⟩) s).2)),(901,.box (.agg [.int .i64 ((ab b e (aw (ag n)) (⟨k,[],[],[],[]⟩) s).1).kind,.str ((ab b e (aw (ag n)) (⟨k,[],[],[],[]⟩) s).1).pkg,.str ((ab b e (aw (ag n)) (⟨k,[],[],[],[]⟩) s).1).name,.nils,.lst (.st .shape) ((ab b e (aw (ag n)) (⟨k,[],[],[],[]⟩) s).1).parts (some 702)])),(902,.box (.ptr 900 0)),(702,.tail (.st .shape) (ab b e (aw (ag n)) (⟨k,[],[],[],[]⟩) s).1.parts.length)]⟩):=
 B0 Eo (fun _ _ _ _=>rfl) (fun _ _ _ _=>by simp [am]) fun b e k s ho=>wi n b e k s (ho _ rfl).1 (ho _ rfl).2 hC
theorem wj:au prog 53:=ee func53
theorem wk (n:Nat) (s:Par) (hi:a8 s) (hn:rem s < n+1) (hS:ad prog 53 (pP0 fun s=>⟨some (a8 s/\rem s < n),none,.st .shape (ag n s).1,[(900,.box (.st .par (ag n s).2))]⟩)) (hL:ad prog 60 (tS 105 fun b e k s=>⟨some (a8 s/\rem s<=n),none,.tup [],[(900,.box (.st .par (ab b e (ap (ag n)) (⟨k,[],[],[],[]⟩) s).2)),(901,.box (.ptr 900 0)),(902,.box (.agg [.int .i64 ((ab b e (ap (ag n)) (⟨k,[],[],[],[]⟩) s).1).kind,.str ((ab b e (ap (ag n)) (⟨k,[],[],[],[]⟩) s).1).pkg,.str ((ab b e (ap (ag n)) (⟨k,[],[],[],[]⟩) s).1).name,.lst .str ((ab b e (ap (ag n)) (⟨k,[],[],[],[]⟩) s).1).names (some 701),.lst (.st .shape) ((ab b e (ap (ag n)) (⟨k,[],[],[],[]⟩) s).1).parts (some 702)])),(701,.tail .str (ab b e (ap (ag n)) (⟨k,[],[],[],[]⟩) s).1.names.length),(702,.tail (.st .shape) (ab b e (ap (ag n)) (⟨k,[],[],[],[]⟩) s).1.parts.length)]⟩)) (hM:ad prog 60 (tT 108 fun b e k s=>⟨some (a8 s/\rem s < n),none,.tup [],[(900,.box (.st .par (ab b e (aw (ag n)) (⟨k,[],[],[],[]⟩) s).2)),(901,.box (.agg [.int .i64 ((ab b e (aw (ag n)) (⟨k,[],[],[],[]⟩) s).1).kind,.str ((ab b e (aw (ag n)) (⟨k,[],[],[],[]⟩) s).1).pkg,.str ((ab b e (aw (ag n)) (⟨k,[],[],[],[]⟩) s).1).name,.nils,.lst (.st .shape) ((ab b e (aw (ag n)) (⟨k,[],[],[],[]⟩) s).1).parts (some 702)])),(902,.box (.ptr 900 0)),(702,.tail (.st .shape) (ab b e (aw (ag n)) (⟨k,[],[],[],[]⟩) s).1.parts.length)]⟩)):ar prog 53 [.ptr 900 0] [(900,.box (.st .par s))] (⟨some (a8 s/\rem s < n+1),none,.st .shape (ag (n+1) s).1,[(900,.box (.st .par (ag (n+1) s).2))]⟩):=
 g1 nn (fun _=>[]) (fun d=>Nat.beq d 129) nn nn (sc fL (sc dF (sc cN (sc jt (sc f9 (sc gG (sc BK (sc (hS) (sc (hL) (sc (hM) sn)))))))))) a0 func53 (E0 n s hi hn)
theorem lw:∀n:Nat,ad prog 53 (pP0 fun s=>⟨some (a8 s/\rem s < n),none,.st .shape (ag n s).1,[(900,.box (.st .par (ag n s).2))]⟩)
 | 0=>iC wj (fun _=>rfl) (fun _=>by simp [am]) fun s ho=>absurd (ho _ rfl).2 (Nat.not_lt_zero _)
 | n+1=>iC wj (fun _=>rfl) (fun _=>by simp [am]) fun s ho=>
  wk n s (ho _ rfl).1 (ho _ rfl).2 (lw n) (BO n (yu n (BL n (lw n)))) (BP n (BN n (lw n)))
theorem ju:ad prog 30 (pP0 fun s=>⟨some (a8 s),none,.st .shape (bW s).1,[(900,.box (.st .par ((bW s).2)))]⟩):=
 iC (ee func30) (fun _=>rfl) (fun _=>by simp [am]) fun s ho=>g0 (sc fL (sc (lw big) (sc dF (sc sw (sc gG sn))))) a0 func30 (E1 s (ho _ rfl))
theorem BQ:au prog 56:=ee func56
theorem ud (n:Nat) (x:Trm) (s:Par) (hi:a8 s) (hn:rem s < n) (zn:x.names=[]) (zv:x.vars=[]) (zs:x.shapes=[]) (zp:x.parts=[]) (hT:ad prog 34 (pP0 fun s=>⟨some (a8 s/\rem s < n),none,.st .term (a7 n s).1,[(900,.box (.st .par (a7 n s).2))]⟩)):ar prog 56 [.ptr 900 0,.ptr 901 0] (sT_ x (.st .par s)) (⟨some (a8 s/\rem s < n),none,.tup [],[(900,.box (.agg [.int .i64 x.kind,.str x.pkg,.str x.name,.int .i64 x.n,.nils,.nils,.nils,.lst (.st .term) ((x.parts++[(a7 n s).1])) (some 8),.int .i64 x.pos])),(901,.box (.ptr 902 0)),(902,.box (.st .par (a7 n s).2)),(8,.tail (.st .term) (x.parts++[(a7 n s).1]).length)]⟩):=
 g1 nn (fun _=>[]) (fun d=>Nat.beq d 8) nn nn (sc (hT) sn) a0 func56 (Bj n x s hi hn zn zv zs zp)
theorem yw (n:Nat) (hT:ad prog 34 (pP0 fun s=>⟨some (a8 s/\rem s < n),none,.st .term (a7 n s).1,[(900,.box (.st .par (a7 n s).2))]⟩)):ad prog 56 (pT_ fun x s=>⟨some (a8 s/\rem s < n),none,.tup [],[(900,.box (.agg [.int .i64 x.kind,.str x.pkg,.str x.name,.int .i64 x.n,.nils,.nils,.nils,.lst (.st .term) ((x.parts++[(a7 n s).1])) (some 8),.int .i64 x.pos])),(901,.box (.ptr 902 0)),(902,.box (.st .par (a7 n s).2)),(8,.tail (.st .term) (x.parts++[(a7 n s).1]).length)]⟩):=
 Gz BQ (fun _ _=>rfl) (fun _ _=>by simp [am]) fun x s zn zv zs zp ho=>by
  obtain ⟨q1,q2⟩:=ho _ rfl
  exact ud n x s q1 q2 zn zv zs zp hT
theorem BR:au prog 56:=ee func56
theorem ue (n:Nat) (x:Trm) (s:Par) (hi:a8 s) (hn:rem s < n) (zn:x.names=[]) (zv:x.vars=[]) (zs:x.shapes=[]) (hl:x.parts.length<=100000) (hT:ad prog 34 (pP0 fun s=>⟨some (a8 s/\rem s < n),none,.st .term (a7 n s).1,[(900,.box (.st .par (a7 n s).2))]⟩)):ar prog 56 [.ptr 900 0,.ptr 901 0] (GA x (.st .par s) x.parts.length) (⟨some (a8 s/\rem s < n/\x.parts.length=x.parts.length/\x.parts.length<=100000),none,.tup [],[(900,.box (.agg [.int .i64 x.kind,.str x.pkg,.str x.name,.int .i64 x.n,.nils,.nils,.nils,.lst (.st .term) ((x.parts++[(a7 n s).1])) (some 902),.int .i64 x.pos])),(901,.box (.ptr 903 0)),(902,.tail (.st .term) (x.parts++[(a7 n s).1]).length),(903,.box (.st .par (a7 n s).2))]⟩):=
 g1 nn (fun _=>[]) (fun d=>Nat.beq d 8) nn nn (sc (hT) sn) a0 func56 (Bk n x s hi hn zn zv zs hl)
theorem qU (n:Nat) (hT:ad prog 34 (pP0 fun s=>⟨some (a8 s/\rem s < n),none,.st .term (a7 n s).1,[(900,.box (.st .par (a7 n s).2))]⟩)):ad prog 56 (tU fun x s mp=>⟨some (a8 s/\rem s < n/\mp=x.parts.length/\mp<=100000),none,.tup [],[(900,.box (.agg [.int .i64 x.kind,.str x.pkg,.str x.name,.int .i64 x.n,.nils,.nils,.nils,.lst (.st .term) ((x.parts++[(a7 n s).1])) (some 902),.int .i64 x.pos])),(901,.box (.ptr 903 0)),(902,.tail (.st .term) (x.parts++[(a7 n s).1]).length),(903,.box (.st .par (a7 n s).2))]⟩):=
 zU BR (fun _ _ _=>rfl) (fun _ _ _=>by simp [am]) fun x s mp zn zv zs ho=>by
  obtain ⟨q1,q2,ep,ql⟩:=ho _ rfl
  subst ep
  exact ue n x s q1 q2 zn zv zs ql hT
theorem yx:au prog 56:=ee func56
theorem rO (n:Nat) (x:Trm) (s:Par) (hi:a8 s) (hn:rem s < n) (zv:x.vars=[]) (zp:x.parts=[]) (hl:x.names.length+x.shapes.length<=100000) (hT:ad prog 34 (pP0 fun s=>⟨some (a8 s/\rem s < n),none,.st .term (a7 n s).1,[(900,.box (.st .par (a7 n s).2))]⟩)):ar prog 56 [.ptr 900 0,.ptr 901 0] (Gj x (.st .par s) x.names.length x.shapes.length) (⟨some (a8 s/\rem s < n/\x.names.length=x.names.length/\x.shapes.length=x.shapes.length/\x.names.length+x.shapes.length<=100000),none,.tup [],[(900,.box (.agg [.int .i64 x.kind,.str x.pkg,.str x.name,.int .i64 x.n,.lst .str (x.names) (some 902),.nils,.lst (.st .shape) (x.shapes) (some 903),.lst (.st .term) ((x.parts++[(a7 n s).1])) (some 8),.int .i64 x.pos])),(901,.box (.ptr 904 0)),(902,.tail .str x.names.length),(903,.tail (.st .shape) x.shapes.length),(904,.box (.st .par (a7 n s).2)),(8,.tail (.st .term) (x.parts++[(a7 n s).1]).length)]⟩):=
 g1 nn (fun _=>[]) (fun d=>Nat.beq d 8) nn nn (sc (hT) sn) a0 func56 (yg n x s hi hn zv zp hl)
theorem wl (n:Nat) (hT:ad prog 34 (pP0 fun s=>⟨some (a8 s/\rem s < n),none,.st .term (a7 n s).1,[(900,.box (.st .par (a7 n s).2))]⟩)):ad prog 56 (zW fun x s mn ms=>⟨some (a8 s/\rem s < n/\mn=x.names.length/\ms=x.shapes.length/\mn+ms<=100000),none,.tup [],[(900,.box (.agg [.int .i64 x.kind,.str x.pkg,.str x.name,.int .i64 x.n,.lst .str (x.names) (some 902),.nils,.lst (.st .shape) (x.shapes) (some 903),.lst (.st .term) ((x.parts++[(a7 n s).1])) (some 8),.int .i64 x.pos])),(901,.box (.ptr 904 0)),(902,.tail .str x.names.length),(903,.tail (.st .shape) x.shapes.length),(904,.box (.st .par (a7 n s).2)),(8,.tail (.st .term) (x.parts++[(a7 n s).1]).length)]⟩):=
 Di yx (fun _ _ _ _=>rfl) (fun _ _ _ _=>by simp [am]) fun x s mn ms zv zp ho=>by
  obtain ⟨q1,q2,en,es,ql⟩:=ho _ rfl
  subst en
  subst es
  exact rO n x s q1 q2 zv zp ql hT
theorem uf:au prog 56:=ee func56
theorem oX (n:Nat) (x:Trm) (s:Par) (hi:a8 s) (hn:rem s < n) (hl:x.names.length+x.vars.length+x.shapes.length+x.parts.length<=100000) (hT:ad prog 34 (pP0 fun s=>⟨some (a8 s/\rem s < n),none,.st .term (a7 n s).1,[(900,.box (.st .par (a7 n s).2))]⟩)):ar prog 56 [.ptr 900 0,.ptr 901 0] (zX x (.st .par s) x.names.length x.vars.length x.shapes.length x.parts.length) (⟨some (a8 s/\rem s < n/\x.names.length=x.names.length/\x.vars.length=x.vars.length/\x.shapes.length=x.shapes.length/\x.parts.length=x.parts.length/\x.names.length+x.vars.length+x.shapes.length+x.parts.length<=100000),none,.tup [],[(900,.box (.agg [.int .i64 x.kind,.str x.pkg,.str x.name,.int .i64 x.n,.lst .str (x.names) (some 902),.lst .str (x.vars) (some 903),.lst (.st .shape) (x.shapes) (some 904),.lst (.st .term) ((x.parts++[(a7 n s).1])) (some 905),.int .i64 x.pos])),(901,.box (.ptr 906 0)),(902,.tail .str x.names.length),(903,.tail .str x.vars.length),(904,.tail (.st .shape) x.shapes.length),(905,.tail (.st .term) (x.parts++[(a7 n s).1]).length),(906,.box (.st .par (a7 n s).2))]⟩):=
 g1 nn (fun _=>[]) (fun d=>Nat.beq d 8) nn nn (sc (hT) sn) a0 func56 (ub n x s hi hn hl)
theorem rP (n:Nat) (hT:ad prog 34 (pP0 fun s=>⟨some (a8 s/\rem s < n),none,.st .term (a7 n s).1,[(900,.box (.st .par (a7 n s).2))]⟩)):ad prog 56 (n7 fun x s mn mv ms mp=>⟨some (a8 s/\rem s < n/\mn=x.names.length/\mv=x.vars.length/\ms=x.shapes.length/\mp=x.parts.length/\mn+mv+ms+mp<=100000),none,.tup [],[(900,.box (.agg [.int .i64 x.kind,.str x.pkg,.str x.name,.int .i64 x.n,.lst .str (x.names) (some 902),.lst .str (x.vars) (some 903),.lst (.st .shape) (x.shapes) (some 904),.lst (.st .term) ((x.parts++[(a7 n s).1])) (some 905),.int .i64 x.pos])),(901,.box (.ptr 906 0)),(902,.tail .str x.names.length),(903,.tail .str x.vars.length),(904,.tail (.st .shape) x.shapes.length),(905,.tail (.st .term) (x.parts++[(a7 n s).1]).length),(906,.box (.st .par (a7 n s).2))]⟩):=
 xV uf (fun _ _ _ _ _ _=>rfl) (fun _ _ _ _ _ _=>by simp [am]) fun x s mn mv ms mp _ ho=>by
  obtain ⟨q1,q2,en,ev,es,ep,ql⟩:=ho _ rfl
  subst en
  subst ev
  subst es
  subst ep
  exact oX n x s q1 q2 ql hT
theorem BS:au prog 118:=ee func118
theorem ug (n:Nat) (x:Trm) (s:Par) (hi:a8 s) (hn:rem s < n) (zn:x.names=[]) (zv:x.vars=[]) (zs:x.shapes=[]) (hl:x.parts.length<=100000) (hT:ad prog 34 (pP0 fun s=>⟨some (a8 s/\rem s < n),none,.st .term (a7 n s).1,[(900,.box (.st .par (a7 n s).2))]⟩)):ar prog 118 [.ptr 900 0,.ptr 901 0] (GA x (.st .par s) x.parts.length) (⟨some (a8 s/\rem s < n/\x.parts.length=x.parts.length/\x.parts.length<=100000),none,.tup [],[(900,.box (.agg [.int .i64 x.kind,.str x.pkg,.str x.name,.int .i64 x.n,.nils,.nils,.nils,.lst (.st .term) ((x.parts++[(a7 n s).1])) (some 902),.int .i64 x.pos])),(901,.box (.ptr 903 0)),(902,.tail (.st .term) (x.parts++[(a7 n s).1]).length),(903,.box (.st .par (a7 n s).2))]⟩):=
 g1 nn (fun _=>[]) (fun d=>Nat.beq d 8) nn nn (sc (hT) sn) a0 func118 (Bl n x s hi hn zn zv zs hl)
theorem yy (n:Nat) (hT:ad prog 34 (pP0 fun s=>⟨some (a8 s/\rem s < n),none,.st .term (a7 n s).1,[(900,.box (.st .par (a7 n s).2))]⟩)):ad prog 118 (tU fun x s mp=>⟨some (a8 s/\rem s < n/\mp=x.parts.length/\mp<=100000),none,.tup [],[(900,.box (.agg [.int .i64 x.kind,.str x.pkg,.str x.name,.int .i64 x.n,.nils,.nils,.nils,.lst (.st .term) ((x.parts++[(a7 n s).1])) (some 902),.int .i64 x.pos])),(901,.box (.ptr 903 0)),(902,.tail (.st .term) (x.parts++[(a7 n s).1]).length),(903,.box (.st .par (a7 n s).2))]⟩):=
 zU BS (fun _ _ _=>rfl) (fun _ _ _=>by simp [am]) fun x s mp zn zv zs ho=>by
  obtain ⟨q1,q2,ep,ql⟩:=ho _ rfl
  subst ep
  exact ug n x s q1 q2 zn zv zs ql hT
theorem qV:ad prog 57 (Dk fun x a s mn ms=>⟨some (a8 s/\mn=x.names.length/\ms=x.shapes.length/\mn+ms<=100000),none,.tup [],[(900,.box (.ptr 902 0)),(901,.box (.agg [.int .i64 x.kind,.str x.pkg,.str x.name,.int .i64 x.n,.lst .str (x.names) (some 903),.nils,.lst (.st .shape) ((x.shapes++[(bW (aj a s)).1])) (some 904),.nils,.int .i64 x.pos])),(902,.box (.st .par (bW (aj a s)).2)),(903,.tail .str x.names.length),(904,.tail (.st .shape) (x.shapes++[(bW (aj a s)).1]).length)]⟩):=
 Dl (ee func57) (fun _ _ _ _ _=>rfl) (fun _ _ _ _ _=>by simp [am]) fun x a s mn ms zv zp ho=>by
  obtain ⟨q1,en,es,ql⟩:=ho _ rfl
  subst en
  subst es
  exact g1 nn (fun _=>[]) (fun d=>Nat.beq d 15) nn nn (sc cN (sc ju sn)) a0 func57 (Bm x a s q1 zv zp ql)
theorem BT:ad prog 57 (GB fun x a s mp=>⟨some (a8 s/\mp=x.parts.length/\mp<=100000),none,.tup [],[(900,.box (.ptr 902 0)),(901,.box (.agg [.int .i64 x.kind,.str x.pkg,.str x.name,.int .i64 x.n,.nils,.nils,.lst (.st .shape) ((x.shapes++[(bW (aj a s)).1])) (some 15),.lst (.st .term) (x.parts) (some 903),.int .i64 x.pos])),(902,.box (.st .par (bW (aj a s)).2)),(903,.tail (.st .term) x.parts.length),(15,.tail (.st .shape) (x.shapes++[(bW (aj a s)).1]).length)]⟩):=
 Fk (ee func57) (fun _ _ _ _=>rfl) (fun _ _ _ _=>by simp [am]) fun x a s mp zn zv zs ho=>by
  obtain ⟨q1,ep,ql⟩:=ho _ rfl
  subst ep
  exact g1 nn (fun _=>[]) (fun d=>Nat.beq d 15) nn nn (sc cN (sc ju sn)) a0 func57 (E2 x a s q1 zn zv zs ql)
theorem nj:ad prog 57 (tV fun x a s mn mv ms mp=>⟨some (a8 s/\mn=x.names.length/\mv=x.vars.length/\ms=x.shapes.length/\mp=x.parts.length/\mn+mv+ms+mp<=100000),none,.tup [],[(900,.box (.ptr 902 0)),(901,.box (.agg [.int .i64 x.kind,.str x.pkg,.str x.name,.int .i64 x.n,.lst .str (x.names) (some 903),.lst .str (x.vars) (some 904),.lst (.st .shape) ((x.shapes++[(bW (aj a s)).1])) (some 905),.lst (.st .term) (x.parts) (some 906),.int .i64 x.pos])),(902,.box (.st .par (bW (aj a s)).2)),(903,.tail .str x.names.length),(904,.tail .str x.vars.length),(905,.tail (.st .shape) (x.shapes++[(bW (aj a s)).1]).length),(906,.tail (.st .term) x.parts.length)]⟩):=
 xW (ee func57) (fun _ _ _ _ _ _ _=>rfl) (fun _ _ _ _ _ _ _=>by simp [am]) fun x a s mn mv ms mp _ ho=>by
  obtain ⟨q1,en,ev,es,ep,ql⟩:=ho _ rfl
  subst en
  subst ev
  subst es
  subst ep
  exact g1 nn (fun _=>[]) (fun d=>Nat.beq d 15) nn nn (sc cN (sc ju sn)) a0 func57 (vY x a s q1 ql)
theorem Ep:au prog 165:=ee func165
theorem wm (n:Nat) (x:Trm) (s:Par) (hi:a8 s) (h0:s.err=0) (hn:rem s<=n) (zv:x.vars=[]) (zs:x.shapes=[]) (hl:x.names.length+x.parts.length<=100000) (hT:ad prog 34 (pP0 fun s=>⟨some (a8 s/\rem s < n),none,.st .term (a7 n s).1,[(900,.box (.st .par (a7 n s).2))]⟩)):ar prog 165 [.ptr 900 0,.ptr 901 0] (Gk x (.st .par s) x.names.length x.parts.length) (⟨some (a8 s/\s.err=0/\rem s<=n/\x.names.length=x.names.length/\x.parts.length=x.parts.length/\x.names.length+x.parts.length<=100000),none,.tup [],[(900,.box (.agg [.int .i64 ((ah (a7 n) x s).1).kind,.str ((ah (a7 n) x s).1).pkg,.str ((ah (a7 n) x s).1).name,.int .i64 ((ah (a7 n) x s).1).n,.lst .str ((ah (a7 n) x s).1).names (some 902),.nils,.nils,.lst (.st .term) ((ah (a7 n) x s).1).parts (some 903),.int .i64 ((ah (a7 n) x s).1).pos])),(901,.box (.ptr 904 0)),(902,.tail .str (ah (a7 n) x s).1.names.length),(903,.tail (.st .term) (ah (a7 n) x s).1.parts.length),(904,.box (.st .par (ah (a7 n) x s).2))]⟩):=
 g1 nn (fun _=>[]) (fun d=>Nat.beq d 23) nn nn (sc lu (sc cN (sc (hT) sn))) a0 func165 (E3 n x s hi h0 hn zv zs hl)
theorem BU (n:Nat) (hT:ad prog 34 (pP0 fun s=>⟨some (a8 s/\rem s < n),none,.st .term (a7 n s).1,[(900,.box (.st .par (a7 n s).2))]⟩)):ad prog 165 (vC fun x s mn mp=>⟨some (a8 s/\s.err=0/\rem s<=n/\mn=x.names.length/\mp=x.parts.length/\mn+mp<=100000),none,.tup [],[(900,.box (.agg [.int .i64 ((ah (a7 n) x s).1).kind,.str ((ah (a7 n) x s).1).pkg,.str ((ah (a7 n) x s).1).name,.int .i64 ((ah (a7 n) x s).1).n,.lst .str ((ah (a7 n) x s).1).names (some 902),.nils,.nils,.lst (.st .term) ((ah (a7 n) x s).1).parts (some 903),.int .i64 ((ah (a7 n) x s).1).pos])),(901,.box (.ptr 904 0)),(902,.tail .str (ah (a7 n) x s).1.names.length),(903,.tail (.st .term) (ah (a7 n) x s).1.parts.length),(904,.box (.st .par (ah (a7 n) x s).2))]⟩):=
 Dj Ep (fun _ _ _ _=>rfl) (fun _ _ _ _=>by simp [am]) fun x s mn mp zv zs ho=>by
  obtain ⟨q1,q2,q3,en,ep,ql⟩:=ho _ rfl
  subst en
  subst ep
  exact wm n x s q1 q2 q3 zv zs ql hT
theorem FU:ad prog 61 (GC 57 fun x s mn ms=>⟨some (a8 s/\mn=x.names.length/\ms=x.shapes.length/\mn+ms<=90000),none,.tup [],[(900,.box (.agg [.int .i64 ((az x s).1).kind,.str ((az x s).1).pkg,.str ((az x s).1).name,.int .i64 ((az x s).1).n,.lst .str ((az x s).1).names (some 903),.nils,.lst (.st .shape) ((az x s).1).shapes (some 904),.nils,.int .i64 ((az x s).1).pos])),(901,.box (.ptr 905 0)),(902,.box (.fn 57 [.ptr 901 0,.ptr 900 0])),(903,.tail .str (az x s).1.names.length),(904,.tail (.st .shape) (az x s).1.shapes.length),(905,.box (.st .par (az x s).2))]⟩):=
 Fm (ee func61) (fun _ _ _ _=>rfl) (fun _ _ _ _=>by simp [am]) fun x s mn ms zv zp ho=>by
  obtain ⟨q1,en,es,ql⟩:=ho _ rfl
  subst en
  subst es
  exact g0 (sc lu (sc qV sn)) a0 func61 (GM x s q1 zv zp ql)
theorem GQ:au prog 64:=ee func64
theorem BV (n:Nat) (x:Trm) (s:Par) (hi:a8 s) (h0:s.err=0) (hn:rem s<=n) (hl:x.names.length+x.vars.length+x.shapes.length+x.parts.length<=90000) (hP:ad prog 56 (n7 fun x s mn mv ms mp=>⟨some (a8 s/\rem s < n/\mn=x.names.length/\mv=x.vars.length/\ms=x.shapes.length/\mp=x.parts.length/\mn+mv+ms+mp<=100000),none,.tup [],[(900,.box (.agg [.int .i64 x.kind,.str x.pkg,.str x.name,.int .i64 x.n,.lst .str (x.names) (some 902),.lst .str (x.vars) (some 903),.lst (.st .shape) (x.shapes) (some 904),.lst (.st .term) ((x.parts++[(a7 n s).1])) (some 905),.int .i64 x.pos])),(901,.box (.ptr 906 0)),(902,.tail .str x.names.length),(903,.tail .str x.vars.length),(904,.tail (.st .shape) x.shapes.length),(905,.tail (.st .term) (x.parts++[(a7 n s).1]).length),(906,.box (.st .par (a7 n s).2))]⟩)):ar prog 64 [.ptr 900 0,.ptr 901 0,.ptr 902 0,.ptr 903 0] (sWay 57 56 x (.st .par s) x.names.length x.vars.length x.shapes.length x.parts.length) (⟨some (a8 s/\s.err=0/\rem s<=n/\x.names.length=x.names.length/\x.vars.length=x.vars.length/\x.shapes.length=x.shapes.length/\x.parts.length=x.parts.length/\x.names.length+x.vars.length+x.shapes.length+x.parts.length<=90000),none,.tup [],[(900,.box (.agg [.int .i64 ((ai (a7 n) x s).1).kind,.str ((ai (a7 n) x s).1).pkg,.str ((ai (a7 n) x s).1).name,.int .i64 ((ai (a7 n) x s).1).n,.lst .str ((ai (a7 n) x s).1).names (some 904),.lst .str ((ai (a7 n) x s).1).vars (some 905),.lst (.st .shape) ((ai (a7 n) x s).1).shapes (some 906),.lst (.st .term) ((ai (a7 n) x s).1).parts (some 907),.int .i64 ((ai (a7 n) x s).1).pos])),(901,.box (.ptr 908 0)),(902,.box (.fn 57 [.ptr 901 0,.ptr 900 0])),(903,.box (.fn 56 [.ptr 900 0,.ptr 901 0])),(904,.tail .str (ai (a7 n) x s).1.names.length),(905,.tail .str (ai (a7 n) x s).1.vars.length),(906,.tail (.st .shape) (ai (a7 n) x s).1.shapes.length),(907,.tail (.st .term) (ai (a7 n) x s).1.parts.length),(908,.box (.st .par (ai (a7 n) x s).2))]⟩):=
 g0 (sc lu (sc cN (sc jt (sc nj (sc (hP) sn))))) a0 func64 (GN n x s hi h0 hn hl)
theorem FV (n:Nat) (hP:ad prog 56 (n7 fun x s mn mv ms mp=>⟨some (a8 s/\rem s < n/\mn=x.names.length/\mv=x.vars.length/\ms=x.shapes.length/\mp=x.parts.length/\mn+mv+ms+mp<=100000),none,.tup [],[(900,.box (.agg [.int .i64 x.kind,.str x.pkg,.str x.name,.int .i64 x.n,.lst .str (x.names) (some 902),.lst .str (x.vars) (some 903),.lst (.st .shape) (x.shapes) (some 904),.lst (.st .term) ((x.parts++[(a7 n s).1])) (some 905),.int .i64 x.pos])),(901,.box (.ptr 906 0)),(902,.tail .str x.names.length),(903,.tail .str x.vars.length),(904,.tail (.st .shape) x.shapes.length),(905,.tail (.st .term) (x.parts++[(a7 n s).1]).length),(906,.box (.st .par (a7 n s).2))]⟩)):ad prog 64 (Dm 57 56 fun x s mn mv ms mp=>⟨some (a8 s/\s.err=0/\rem s<=n/\mn=x.names.length/\mv=x.vars.length/\ms=x.shapes.length/\mp=x.parts.length/\mn+mv+ms+mp<=90000),none,.tup [],[(900,.box (.agg [.int .i64 ((ai (a7 n) x s).1).kind,.str ((ai (a7 n) x s).1).pkg,.str ((ai (a7 n) x s).1).name,.int .i64 ((ai (a7 n) x s).1).n,.lst .str ((ai (a7 n) x s).1).names (some 904),.lst .str ((ai (a7 n) x s).1).vars (some 905),.lst (.st .shape) ((ai (a7 n) x s).1).shapes (some 906),.lst (.st .term) ((ai (a7 n) x s).1).parts (some 907),.int .i64 ((ai (a7 n) x s).1).pos])),(901,.box (.ptr 908 0)),(902,.box (.fn 57 [.ptr 901 0,.ptr 900 0])),(903,.box (.fn 56 [.ptr 900 0,.ptr 901 0])),(904,.tail .str (ai (a7 n) x s).1.names.length),(905,.tail .str (ai (a7 n) x s).1.vars.length),(906,.tail (.st .shape) (ai (a7 n) x s).1.shapes.length),(907,.tail (.st .term) (ai (a7 n) x s).1.parts.length),(908,.box (.st .par (ai (a7 n) x s).2))]⟩):=
 Fo GQ (fun _ _ _ _ _ _=>rfl) (fun _ _ _ _ _ _=>by simp [am]) fun x s mn mv ms mp _ ho=>by
  obtain ⟨q1,q2,q3,en,ev,es,ep,ql⟩:=ho _ rfl
  subst en
  subst ev
  subst es
  subst ep
  exact BV n x s q1 q2 q3 ql hP
theorem Er:au prog 166:=ee func166
theorem wn (n:Nat) (s:Par)  (ho:a8 s/\rem (aj [40] s) < n) (hT:ad prog 34 (pP0 fun s=>⟨some (a8 s/\rem s < n),none,.st .term (a7 n s).1,[(900,.box (.st .par (a7 n s).2))]⟩)):ar prog 166 [.ptr 900 0] [(900,.box (.st .par s))] (⟨some (a8 s/\rem (aj [40] s) < n),none,.lst (.st .term) (cU (a7 n) s).1 none,[(900,.box (.st .par ((cU (a7 n) s).2)))]⟩):=
 g0 (sc cN (sc (hT) sn)) a0 func166 (E4 n s ho)
theorem BW (n:Nat) (hT:ad prog 34 (pP0 fun s=>⟨some (a8 s/\rem s < n),none,.st .term (a7 n s).1,[(900,.box (.st .par (a7 n s).2))]⟩)):ad prog 166 (pP0 fun s=>⟨some (a8 s/\rem (aj [40] s) < n),none,.lst (.st .term) (cU (a7 n) s).1 none,[(900,.box (.st .par ((cU (a7 n) s).2)))]⟩):=
 iC Er (fun _=>rfl) (fun _=>by simp [am]) fun s ho=>wn n s (ho _ rfl) hT
theorem FW:au prog 60:=ee func60
theorem yz (n:Nat) (k pp z:Int) (g q:Str) (b e:Str) (s:Par) (hi:a8 s) (hn:rem s<=n) :ar prog 60 [.ptr 900 0,.str b,.str e,.fn 61 [.ptr 901 0,.ptr 902 0,.ptr 903 0]] (Gl 61 57 (⟨k,g,q,z,[],[],[],[],pp⟩:Trm) (.st .par s)) (⟨some (a8 s/\rem s<=n),none,.tup [],[(900,.box (.st .par (ab b e (az) ⟨k,g,q,z,[],[],[],[],pp⟩ s).2)),(901,.box (.agg [.int .i64 ((ab b e (az) ⟨k,g,q,z,[],[],[],[],pp⟩ s).1).kind,.str ((ab b e (az) ⟨k,g,q,z,[],[],[],[],pp⟩ s).1).pkg,.str ((ab b e (az) ⟨k,g,q,z,[],[],[],[],pp⟩ s).1).name,.int .i64 ((ab b e (az) ⟨k,g,q,z,[],[],[],[],pp⟩ s).1).n,.lst .str ((ab b e (az) ⟨k,g,q,z,[],[],[],[],pp⟩ s).1).names (some 701),.nils,.lst (.st .shape) ((ab b e (az) ⟨k,g,q,z,[],[],[],[],pp⟩ s).1).shapes (some 702),.nils,.int .i64 ((ab b e (az) ⟨k,g,q,z,[],[],[],[],pp⟩ s).1).pos])),(902,.box (.ptr 900 0)),(903,.box (.fn 57 [.ptr 902 0,.ptr 901 0])),(701,.tail .str (ab b e (az) ⟨k,g,q,z,[],[],[],[],pp⟩ s).1.names.length),(702,.tail (.st .shape) (ab b e (az) ⟨k,g,q,z,[],[],[],[],pp⟩ s).1.shapes.length)]⟩):=
 g0 (sc f9 (sc dF (sc cN (sc (FU) sn)))) ⟨[(1,fun S0=>⟨Nat × Trm × Par,fun y=>a8 y.2.2/\rem y.2.2 < y.1/\rem y.2.2<=n/\y.2.1.names.length+y.1<=5000/\y.2.1.shapes.length+y.1<=5000/\y.2.1.vars=[]/\y.2.1.parts=[]/\bc b e (az) y.1 y.2.1 y.2.2=(ab b e (az) ⟨k,g,q,z,[],[],[],[],pp⟩ s),fun _=>[],fun y=>[(900,.box (.st .par y.2.2)),(901,.box (.agg [.int .i64 (y.2.1).kind,.str (y.2.1).pkg,.str (y.2.1).name,.int .i64 (y.2.1).n,.lst .str (y.2.1).names (some 701),.nils,.lst (.st .shape) (y.2.1).shapes (some 702),.nils,.int .i64 (y.2.1).pos])),(701,.tail .str y.2.1.names.length),(702,.tail (.st .shape) y.2.1.shapes.length)],fun y=>y.1⟩)],[],[]⟩ func60 (FH n k pp z g q b e s hi hn)
theorem Es (n:Nat) :ad prog 60 (zY 61 57 fun x b e s=>⟨some (a8 s/\rem s<=n),none,.tup [],[(900,.box (.st .par (ab b e (az) x s).2)),(901,.box (.agg [.int .i64 ((ab b e (az) x s).1).kind,.str ((ab b e (az) x s).1).pkg,.str ((ab b e (az) x s).1).name,.int .i64 ((ab b e (az) x s).1).n,.lst .str ((ab b e (az) x s).1).names (some 701),.nils,.lst (.st .shape) ((ab b e (az) x s).1).shapes (some 702),.nils,.int .i64 ((ab b e (az) x s).1).pos])),(902,.box (.ptr 900 0)),(903,.box (.fn 57 [.ptr 902 0,.ptr 901 0])),(701,.tail .str (ab b e (az) x s).1.names.length),(702,.tail (.st .shape) (ab b e (az) x s).1.shapes.length)]⟩):=
 Dn FW (fun _ _ _ _=>rfl) (fun _ _ _ _=>by simp [am]) fun x b e s zn zv zs zp ho=>by
  obtain ⟨k,g,q,z,ns,vs,ss,us,pp⟩:=x
  simp only at zn zv zs zp
  obtain ⟨q1,q2⟩:=ho _ rfl
  subst zn zv zs zp
  exact yz n k pp z g q b e s q1 q2
theorem FX:au prog 60:=ee func60
theorem yA (n:Nat) (k pp z:Int) (g q:Str) (us:List Trm) (b e:Str) (s:Par) (hi:a8 s) (hn:rem s<=n) (hu:us.length<=1) (hC:ad prog 64 (Dm 57 56 fun x s mn mv ms mp=>⟨some (a8 s/\s.err=0/\rem s<=n/\mn=x.names.length/\mv=x.vars.length/\ms=x.shapes.length/\mp=x.parts.length/\mn+mv+ms+mp<=90000),none,.tup [],[(900,.box (.agg [.int .i64 ((ai (a7 n) x s).1).kind,.str ((ai (a7 n) x s).1).pkg,.str ((ai (a7 n) x s).1).name,.int .i64 ((ai (a7 n) x s).1).n,.lst .str ((ai (a7 n) x s).1).names (some 904),.lst .str ((ai (a7 n) x s).1).vars (some 905),.lst (.st .shape) ((ai (a7 n) x s).1).shapes (some 906),.lst (.st .term) ((ai (a7 n) x s).1).parts (some 907),.int .i64 ((ai (a7 n) x s).1).pos])),(901,.box (.ptr 908 0)),(902,.box (.fn 57 [.ptr 901 0,.ptr 900 0])),(903,.box (.fn 56 [.ptr 900 0,.ptr 901 0])),(904,.tail .str (ai (a7 n) x s).1.names.length),(905,.tail .str (ai (a7 n) x s).1.vars.length),(906,.tail (.st .shape) (ai (a7 n) x s).1.shapes.length),(907,.tail (.st .term) (ai (a7 n) x s).1.parts.length),(908,.box (.st .par (ai (a7 n) x s).2))]⟩)):ar prog 60 [.ptr 900 0,.str b,.str e,.fn 64 [.ptr 901 0,.ptr 902 0,.ptr 903 0,.ptr 904 0]] (Gm 64 57 56 (⟨k,g,q,z,[],[],[],us,pp⟩:Trm) (.st .par s) us.length) (⟨some (a8 s/\rem s<=n/\us.length=us.length/\us.length<=1),none,.tup [],[(900,.box (.st .par (ab b e (ai (a7 n)) ⟨k,g,q,z,[],[],[],us,pp⟩ s).2)),(901,.box (.agg [.int .i64 ((ab b e (ai (a7 n)) ⟨k,g,q,z,[],[],[],us,pp⟩ s).1).kind,.str ((ab b e (ai (a7 n)) ⟨k,g,q,z,[],[],[],us,pp⟩ s).1).pkg,.str ((ab b e (ai (a7 n)) ⟨k,g,q,z,[],[],[],us,pp⟩ s).1).name,.int .i64 ((ab b e (ai (a7 n)) ⟨k,g,q,z,[],[],[],us,pp⟩ s).1).n,.lst .str ((ab b e (ai (a7 n)) ⟨k,g,q,z,[],[],[],us,pp⟩ s).1).names (some 701),.lst .str ((ab b e (ai (a7 n)) ⟨k,g,q,z,[],[],[],us,pp⟩ s).1).vars (some 702),.lst (.st .shape) ((ab b e (ai (a7 n)) ⟨k,g,q,z,[],[],[],us,pp⟩ s).1).shapes (some 703),.lst (.st .term) ((ab b e (ai (a7 n)) ⟨k,g,q,z,[],[],[],us,pp⟩ s).1).parts (some 905),.int .i64 ((ab b e (ai (a7 n)) ⟨k,g,q,z,[],[],[],us,pp⟩ s).1).pos])),(902,.box (.ptr 900 0)),(903,.box (.fn 57 [.ptr 902 0,.ptr 901 0])),(904,.box (.fn 56 [.ptr 901 0,.ptr 902 0])),(701,.tail .str (ab b e (ai (a7 n)) ⟨k,g,q,z,[],[],[],us,pp⟩ s).1.names.length),(702,.tail .str (ab b e (ai (a7 n)) ⟨k,g,q,z,[],[],[],us,pp⟩ s).1.vars.length),(703,.tail (.st .shape) (ab b e (ai (a7 n)) ⟨k,g,q,z,[],[],[],us,pp⟩ s).1.shapes.length),(905,.tail (.st .term) (ab b e (ai (a7 n)) ⟨k,g,q,z,[],[],[],us,pp⟩ s).1.parts.length)]⟩):=
 g0 (sc f9 (sc dF (sc cN (sc (hC) sn)))) ⟨[(1,fun S0=>⟨Nat × Trm × Par,fun y=>a8 y.2.2/\rem y.2.2 < y.1/\rem y.2.2<=n/\y.2.1.names.length+y.1<=5000/\y.2.1.vars.length+y.1<=5000/\y.2.1.shapes.length+y.1<=5000/\y.2.1.parts.length+y.1<=5000/\bc b e (ai (a7 n)) y.1 y.2.1 y.2.2=(ab b e (ai (a7 n)) ⟨k,g,q,z,[],[],[],us,pp⟩ s),fun _=>[],fun y=>[(900,.box (.st .par y.2.2)),(901,.box (.agg [.int .i64 (y.2.1).kind,.str (y.2.1).pkg,.str (y.2.1).name,.int .i64 (y.2.1).n,.lst .str (y.2.1).names (some 701),.lst .str (y.2.1).vars (some 702),.lst (.st .shape) (y.2.1).shapes (some 703),.lst (.st .term) (y.2.1).parts (some 905),.int .i64 (y.2.1).pos])),(701,.tail .str y.2.1.names.length),(702,.tail .str y.2.1.vars.length),(703,.tail (.st .shape) y.2.1.shapes.length),(905,.tail (.st .term) y.2.1.parts.length)],fun y=>y.1⟩)],[],[]⟩ func60 (FI n k pp z g q us b e s hi hn hu)
theorem Et (n:Nat) (hC:ad prog 64 (Dm 57 56 fun x s mn mv ms mp=>⟨some (a8 s/\s.err=0/\rem s<=n/\mn=x.names.length/\mv=x.vars.length/\ms=x.shapes.length/\mp=x.parts.length/\mn+mv+ms+mp<=90000),none,.tup [],[(900,.box (.agg [.int .i64 ((ai (a7 n) x s).1).kind,.str ((ai (a7 n) x s).1).pkg,.str ((ai (a7 n) x s).1).name,.int .i64 ((ai (a7 n) x s).1).n,.lst .str ((ai (a7 n) x s).1).names (some 904),.lst .str ((ai (a7 n) x s).1).vars (some 905),.lst (.st .shape) ((ai (a7 n) x s).1).shapes (some 906),.lst (.st .term) ((ai (a7 n) x s).1).parts (some 907),.int .i64 ((ai (a7 n) x s).1).pos])),(901,.box (.ptr 908 0)),(902,.box (.fn 57 [.ptr 901 0,.ptr 900 0])),(903,.box (.fn 56 [.ptr 900 0,.ptr 901 0])),(904,.tail .str (ai (a7 n) x s).1.names.length),(905,.tail .str (ai (a7 n) x s).1.vars.length),(906,.tail (.st .shape) (ai (a7 n) x s).1.shapes.length),(907,.tail (.st .term) (ai (a7 n) x s).1.parts.length),(908,.box (.st .par (ai (a7 n) x s).2))]⟩)):ad prog 60 (zZ 64 57 56 fun x b e s mp=>⟨some (a8 s/\rem s<=n/\mp=x.parts.length/\mp<=1),none,.tup [],[(900,.box (.st .par (ab b e (ai (a7 n)) x s).2)),(901,.box (.agg [.int .i64 ((ab b e (ai (a7 n)) x s).1).kind,.str ((ab b e (ai (a7 n)) x s).1).pkg,.str ((ab b e (ai (a7 n)) x s).1).name,.int .i64 ((ab b e (ai (a7 n)) x s).1).n,.lst .str ((ab b e (ai (a7 n)) x s).1).names (some 701),.lst .str ((ab b e (ai (a7 n)) x s).1).vars (some 702),.lst (.st .shape) ((ab b e (ai (a7 n)) x s).1).shapes (some 703),.lst (.st .term) ((ab b e (ai (a7 n)) x s).1).parts (some 905),.int .i64 ((ab b e (ai (a7 n)) x s).1).pos])),(902,.box (.ptr 900 0)),(903,.box (.fn 57 [.ptr 902 0,.ptr 901 0])),(904,.box (.fn 56 [.ptr 901 0,.ptr 902 0])),(701,.tail .str (ab b e (ai (a7 n)) x s).1.names.length),(702,.tail .str (ab b e (ai (a7 n)) x s).1.vars.length),(703,.tail (.st .shape) (ab b e (ai (a7 n)) x s).1.shapes.length),(905,.tail (.st .term) (ab b e (ai (a7 n)) x s).1.parts.length)]⟩):=
 Do FX (fun _ _ _ _ _=>rfl) (fun _ _ _ _ _=>by simp [am]) fun x b e s mp zn zv zs ho=>by
  obtain ⟨k,g,q,z,ns,vs,ss,us,pp⟩:=x
  simp only at zn zv zs
  obtain ⟨q1,q2,e1,ql⟩:=ho _ rfl
  subst zn zv zs e1
  exact yA n k pp z g q us b e s q1 q2 ql hC
theorem Eu:au prog 60:=ee func60
theorem wo (n:Nat) (k pp z:Int) (g q:Str) (b e:Str) (s:Par) (hi:a8 s) (hn:rem s < n) (hC:ad prog 56 (tU fun x s mp=>⟨some (a8 s/\rem s < n/\mp=x.parts.length/\mp<=100000),none,.tup [],[(900,.box (.agg [.int .i64 x.kind,.str x.pkg,.str x.name,.int .i64 x.n,.nils,.nils,.nils,.lst (.st .term) ((x.parts++[(a7 n s).1])) (some 902),.int .i64 x.pos])),(901,.box (.ptr 903 0)),(902,.tail (.st .term) (x.parts++[(a7 n s).1]).length),(903,.box (.st .par (a7 n s).2))]⟩)):ar prog 60 [.ptr 900 0,.str b,.str e,.fn 56 [.ptr 901 0,.ptr 902 0]] (Dp 56 (⟨k,g,q,z,[],[],[],[],pp⟩:Trm) (.st .par s)) (⟨some (a8 s/\rem s < n),none,.tup [],[(900,.box (.st .par (ab b e (aq (a7 n)) ⟨k,g,q,z,[],[],[],[],pp⟩ s).2)),(901,.box (.agg [.int .i64 ((ab b e (aq (a7 n)) ⟨k,g,q,z,[],[],[],[],pp⟩ s).1).kind,.str ((ab b e (aq (a7 n)) ⟨k,g,q,z,[],[],[],[],pp⟩ s).1).pkg,.str ((ab b e (aq (a7 n)) ⟨k,g,q,z,[],[],[],[],pp⟩ s).1).name,.int .i64 ((ab b e (aq (a7 n)) ⟨k,g,q,z,[],[],[],[],pp⟩ s).1).n,.nils,.nils,.nils,.lst (.st .term) ((ab b e (aq (a7 n)) ⟨k,g,q,z,[],[],[],[],pp⟩ s).1).parts (some 701),.int .i64 ((ab b e (aq (a7 n)) ⟨k,g,q,z,[],[],[],[],pp⟩ s).1).pos])),(902,.box (.ptr 900 0)),(701,.tail (.st .term) (ab b e (aq (a7 n)) ⟨k,g,q,z,[],[],[],[],pp⟩ s).1.parts.length)]⟩):=
 g0 (sc f9 (sc dF (sc cN (sc (hC) sn)))) ⟨[(1,fun S0=>⟨Nat × Trm × Par,fun y=>a8 y.2.2/\rem y.2.2 < y.1/\rem y.2.2 < n/\y.2.1.parts.length+y.1<=5000/\y.2.1.names=[]/\y.2.1.vars=[]/\y.2.1.shapes=[]/\bc b e (aq (a7 n)) y.1 y.2.1 y.2.2=(ab b e (aq (a7 n)) ⟨k,g,q,z,[],[],[],[],pp⟩ s),fun _=>[],fun y=>[(900,.box (.st .par y.2.2)),(901,.box (.agg [.int .i64 (y.2.1).kind,.str (y.2.1).pkg,.str (y.2.1).name,.int .i64 (y.2.1).n,.nils,.nils,.nils,.lst (.st .term) (y.2.1).parts (some 701),.int .i64 (y.2.1).pos])),(701,.tail (.st .term) y.2.1.parts.length)],fun y=>y.1⟩)],[],[]⟩ func60 (E5 n k pp z g q b e s hi hn)
theorem BX (n:Nat) (hC:ad prog 56 (tU fun x s mp=>⟨some (a8 s/\rem s < n/\mp=x.parts.length/\mp<=100000),none,.tup [],[(900,.box (.agg [.int .i64 x.kind,.str x.pkg,.str x.name,.int .i64 x.n,.nils,.nils,.nils,.lst (.st .term) ((x.parts++[(a7 n s).1])) (some 902),.int .i64 x.pos])),(901,.box (.ptr 903 0)),(902,.tail (.st .term) (x.parts++[(a7 n s).1]).length),(903,.box (.st .par (a7 n s).2))]⟩)):ad prog 60 (qv 56 fun x b e s=>⟨some (a8 s/\rem s < n),none,.tup [],[(900,.box (.st .par (ab b e (aq (a7 n)) x s).2)),(901,.box (.agg [.int .i64 ((ab b e (aq (a7 n)) x s).1).kind,.str ((ab b e (aq (a7 n)) x s).1).pkg,.str ((ab b e (aq (a7 n)) x s).1).name,.int .i64 ((ab b e (aq (a7 n)) x s).1).n,.nils,.nils,.nils,.lst (.st .term) ((ab b e (aq (a7 n)) x s).1).parts (some 701),.int .i64 ((ab b e (aq (a7 n)) x s).1).pos])),(902,.box (.ptr 900 0)),(701,.tail (.st .term) (ab b e (aq (a7 n)) x s).1.parts.length)]⟩):=
 vD Eu (fun _ _ _ _=>rfl) (fun _ _ _ _=>by simp [am]) fun x b e s zn zv zs zp ho=>by
  obtain ⟨k,g,q,z,ns,vs,ss,us,pp⟩:=x
  simp only at zn zv zs zp
  obtain ⟨q1,q2⟩:=ho _ rfl
  subst zn zv zs zp
  exact wo n k pp z g q b e s q1 q2 hC
theorem BY:au prog 60:=ee func60
theorem uh (n:Nat) (k pp z:Int) (g q:Str) (b e:Str) (s:Par) (hi:a8 s) (hn:rem s<=n) (hC:ad prog 165 (vC fun x s mn mp=>⟨some (a8 s/\s.err=0/\rem s<=n/\mn=x.names.length/\mp=x.parts.length/\mn+mp<=100000),none,.tup [],[(900,.box (.agg [.int .i64 ((ah (a7 n) x s).1).kind,.str ((ah (a7 n) x s).1).pkg,.str ((ah (a7 n) x s).1).name,.int .i64 ((ah (a7 n) x s).1).n,.lst .str ((ah (a7 n) x s).1).names (some 902),.nils,.nils,.lst (.st .term) ((ah (a7 n) x s).1).parts (some 903),.int .i64 ((ah (a7 n) x s).1).pos])),(901,.box (.ptr 904 0)),(902,.tail .str (ah (a7 n) x s).1.names.length),(903,.tail (.st .term) (ah (a7 n) x s).1.parts.length),(904,.box (.st .par (ah (a7 n) x s).2))]⟩)):ar prog 60 [.ptr 900 0,.str b,.str e,.fn 165 [.ptr 901 0,.ptr 902 0]] (Dp 165 (⟨k,g,q,z,[],[],[],[],pp⟩:Trm) (.st .par s)) (⟨some (a8 s/\rem s<=n),none,.tup [],[(900,.box (.st .par (ab b e (ah (a7 n)) ⟨k,g,q,z,[],[],[],[],pp⟩ s).2)),(901,.box (.agg [.int .i64 ((ab b e (ah (a7 n)) ⟨k,g,q,z,[],[],[],[],pp⟩ s).1).kind,.str ((ab b e (ah (a7 n)) ⟨k,g,q,z,[],[],[],[],pp⟩ s).1).pkg,.str ((ab b e (ah (a7 n)) ⟨k,g,q,z,[],[],[],[],pp⟩ s).1).name,.int .i64 ((ab b e (ah (a7 n)) ⟨k,g,q,z,[],[],[],[],pp⟩ s).1).n,.lst .str ((ab b e (ah (a7 n)) ⟨k,g,q,z,[],[],[],[],pp⟩ s).1).names (some 701),.nils,.nils,.lst (.st .term) ((ab b e (ah (a7 n)) ⟨k,g,q,z,[],[],[],[],pp⟩ s).1).parts (some 702),.int .i64 ((ab b e (ah (a7 n)) ⟨k,g,q,z,[],[],[],[],pp⟩ s).1).pos])),(902,.box (.ptr 900 0)),(701,.tail .str (ab b e (ah (a7 n)) ⟨k,g,q,z,[],[],[],[],pp⟩ s).1.names.length),(702,.tail (.st .term) (ab b e (ah (a7 n)) ⟨k,g,q,z,[],[],[],[],pp⟩ s).1.parts.length)]⟩):=
 g0 (sc f9 (sc dF (sc cN (sc (hC) sn)))) ⟨[(1,fun S0=>⟨Nat × Trm × Par,fun y=>a8 y.2.2/\rem y.2.2 < y.1/\rem y.2.2<=n/\y.2.1.names.length+y.1<=5000/\y.2.1.parts.length+y.1<=5000/\y.2.1.vars=[]/\y.2.1.shapes=[]/\bc b e (ah (a7 n)) y.1 y.2.1 y.2.2=(ab b e (ah (a7 n)) ⟨k,g,q,z,[],[],[],[],pp⟩ s),fun _=>[],fun y=>[(900,.box (.st .par y.2.2)),(901,.box (.agg [.int .i64 (y.2.1).kind,.str (y.2.1).pkg,.str (y.2.1).name,.int .i64 (y.2.1).n,.lst .str (y.2.1).names (some 701),.nils,.nils,.lst (.st .term) (y.2.1).parts (some 702),.int .i64 (y.2.1).pos])),(701,.tail .str y.2.1.names.length),(702,.tail (.st .term) y.2.1.parts.length)],fun y=>y.1⟩)],[],[]⟩ func60 (Bn n k pp z g q b e s hi hn)
theorem yB (n:Nat) (hC:ad prog 165 (vC fun x s mn mp=>⟨some (a8 s/\s.err=0/\rem s<=n/\mn=x.names.length/\mp=x.parts.length/\mn+mp<=100000),none,.tup [],[(900,.box (.agg [.int .i64 ((ah (a7 n) x s).1).kind,.str ((ah (a7 n) x s).1).pkg,.str ((ah (a7 n) x s).1).name,.int .i64 ((ah (a7 n) x s).1).n,.lst .str ((ah (a7 n) x s).1).names (some 902),.nils,.nils,.lst (.st .term) ((ah (a7 n) x s).1).parts (some 903),.int .i64 ((ah (a7 n) x s).1).pos])),(901,.box (.ptr 904 0)),(902,.tail .str (ah (a7 n) x s).1.names.length),(903,.tail (.st .term) (ah (a7 n) x s).1.parts.length),(904,.box (.st .par (ah (a7 n) x s).2))]⟩)):ad prog 60 (qv 165 fun x b e s=>⟨some (a8 s/\rem s<=n),none,.tup [],[(900,.box (.st .par (ab b e (ah (a7 n)) x s).2)),(901,.box (.agg [.int .i64 ((ab b e (ah (a7 n)) x s).1).kind,.str ((ab b e (ah (a7 n)) x s).1).pkg,.str ((ab b e (ah (a7 n)) x s).1).name,.int .i64 ((ab b e (ah (a7 n)) x s).1).n,.lst .str ((ab b e (ah (a7 n)) x s).1).names (some 701),.nils,.nils,.lst (.st .term) ((ab b e (ah (a7 n)) x s).1).parts (some 702),.int .i64 ((ab b e (ah (a7 n)) x s).1).pos])),(902,.box (.ptr 900 0)),(701,.tail .str (ab b e (ah (a7 n)) x s).1.names.length),(702,.tail (.st .term) (ab b e (ah (a7 n)) x s).1.parts.length)]⟩):=
 vD BY (fun _ _ _ _=>rfl) (fun _ _ _ _=>by simp [am]) fun x b e s zn zv zs zp ho=>by
  obtain ⟨k,g,q,z,ns,vs,ss,us,pp⟩:=x
  simp only at zn zv zs zp
  obtain ⟨q1,q2⟩:=ho _ rfl
  subst zn zv zs zp
  exact uh n k pp z g q b e s q1 q2 hC
theorem Ev:au prog 60:=ee func60
theorem wq (n:Nat) (k pp z:Int) (g q:Str) (us:List Trm) (b e:Str) (s:Par) (hi:a8 s) (hn:rem s < n) (hu:us.length<=1) (hC:ad prog 118 (tU fun x s mp=>⟨some (a8 s/\rem s < n/\mp=x.parts.length/\mp<=100000),none,.tup [],[(900,.box (.agg [.int .i64 x.kind,.str x.pkg,.str x.name,.int .i64 x.n,.nils,.nils,.nils,.lst (.st .term) ((x.parts++[(a7 n s).1])) (some 902),.int .i64 x.pos])),(901,.box (.ptr 903 0)),(902,.tail (.st .term) (x.parts++[(a7 n s).1]).length),(903,.box (.st .par (a7 n s).2))]⟩)):ar prog 60 [.ptr 900 0,.str b,.str e,.fn 118 [.ptr 901 0,.ptr 902 0]] (Dq 118 (⟨k,g,q,z,[],[],[],us,pp⟩:Trm) (.st .par s) us.length) (⟨some (a8 s/\rem s < n/\us.length=us.length/\us.length<=1),none,.tup [],[(900,.box (.st .par (ab b e (aq (a7 n)) ⟨k,g,q,z,[],[],[],us,pp⟩ s).2)),(901,.box (.agg [.int .i64 ((ab b e (aq (a7 n)) ⟨k,g,q,z,[],[],[],us,pp⟩ s).1).kind,.str ((ab b e (aq (a7 n)) ⟨k,g,q,z,[],[],[],us,pp⟩ s).1).pkg,.str ((ab b e (aq (a7 n)) ⟨k,g,q,z,[],[],[],us,pp⟩ s).1).name,.int .i64 ((ab b e (aq (a7 n)) ⟨k,g,q,z,[],[],[],us,pp⟩ s).1).n,.nils,.nils,.nils,.lst (.st .term) ((ab b e (aq (a7 n)) ⟨k,g,q,z,[],[],[],us,pp⟩ s).1).parts (some 903),.int .i64 ((ab b e (aq (a7 n)) ⟨k,g,q,z,[],[],[],us,pp⟩ s).1).pos])),(902,.box (.ptr 900 0)),(903,.tail (.st .term) (ab b e (aq (a7 n)) ⟨k,g,q,z,[],[],[],us,pp⟩ s).1.parts.length)]⟩):=
 g0 (sc f9 (sc dF (sc cN (sc (hC) sn)))) ⟨[(1,fun S0=>⟨Nat × Trm × Par,fun y=>a8 y.2.2/\rem y.2.2 < y.1/\rem y.2.2 < n/\y.2.1.parts.length+y.1<=5000/\y.2.1.names=[]/\y.2.1.vars=[]/\y.2.1.shapes=[]/\bc b e (aq (a7 n)) y.1 y.2.1 y.2.2=(ab b e (aq (a7 n)) ⟨k,g,q,z,[],[],[],us,pp⟩ s),fun _=>[],fun y=>[(900,.box (.st .par y.2.2)),(901,.box (.agg [.int .i64 (y.2.1).kind,.str (y.2.1).pkg,.str (y.2.1).name,.int .i64 (y.2.1).n,.nils,.nils,.nils,.lst (.st .term) (y.2.1).parts (some 903),.int .i64 (y.2.1).pos])),(903,.tail (.st .term) y.2.1.parts.length)],fun y=>y.1⟩)],[],[]⟩ func60 (E6 n k pp z g q us b e s hi hn hu)
theorem BZ (n:Nat) (hC:ad prog 118 (tU fun x s mp=>⟨some (a8 s/\rem s < n/\mp=x.parts.length/\mp<=100000),none,.tup [],[(900,.box (.agg [.int .i64 x.kind,.str x.pkg,.str x.name,.int .i64 x.n,.nils,.nils,.nils,.lst (.st .term) ((x.parts++[(a7 n s).1])) (some 902),.int .i64 x.pos])),(901,.box (.ptr 903 0)),(902,.tail (.st .term) (x.parts++[(a7 n s).1]).length),(903,.box (.st .par (a7 n s).2))]⟩)):ad prog 60 (qw 118 fun x b e s mp=>⟨some (a8 s/\rem s < n/\mp=x.parts.length/\mp<=1),none,.tup [],[(900,.box (.st .par (ab b e (aq (a7 n)) x s).2)),(901,.box (.agg [.int .i64 ((ab b e (aq (a7 n)) x s).1).kind,.str ((ab b e (aq (a7 n)) x s).1).pkg,.str ((ab b e (aq (a7 n)) x s).1).name,.int .i64 ((ab b e (aq (a7 n)) x s).1).n,.nils,.nils,.nils,.lst (.st .term) ((ab b e (aq (a7 n)) x s).1).parts (some 903),.int .i64 ((ab b e (aq (a7 n)) x s).1).pos])),(902,.box (.ptr 900 0)),(903,.tail (.st .term) (ab b e (aq (a7 n)) x s).1.parts.length)]⟩):=
 B1 Ev (fun _ _ _ _ _=>rfl) (fun _ _ _ _ _=>by simp [am]) fun x b e s mp zn zv zs ho=>by
  obtain ⟨k,g,q,z,ns,vs,ss,us,pp⟩:=x
  simp only at zn zv zs
  obtain ⟨q1,q2,e1,ql⟩:=ho _ rfl
  subst zn zv zs e1
  exact wq n k pp z g q us b e s q1 q2 ql hC
theorem FY:au prog 65:=ee func65
theorem yC (n:Nat) (s:Par)  (ho:a8 s/\rem s < n+1) (hA:ad prog 117 (pP0 fun s=>⟨some (a8 s/\rem s < n+1),none,.st .term (dB (a7 n) s).1,[(900,.box (.st .par (dB (a7 n) s).2))]⟩)) (hL:ad prog 60 (qw 118 fun x b e s mp=>⟨some (a8 s/\rem s < n/\mp=x.parts.length/\mp<=1),none,.tup [],[(900,.box (.st .par (ab b e (aq (a7 n)) x s).2)),(901,.box (.agg [.int .i64 ((ab b e (aq (a7 n)) x s).1).kind,.str ((ab b e (aq (a7 n)) x s).1).pkg,.str ((ab b e (aq (a7 n)) x s).1).name,.int .i64 ((ab b e (aq (a7 n)) x s).1).n,.nils,.nils,.nils,.lst (.st .term) ((ab b e (aq (a7 n)) x s).1).parts (some 903),.int .i64 ((ab b e (aq (a7 n)) x s).1).pos])),(902,.box (.ptr 900 0)),(903,.tail (.st .term) (ab b e (aq (a7 n)) x s).1.parts.length)]⟩)):ar prog 65 [.ptr 900 0] [(900,.box (.st .par s))] (⟨some (a8 s/\rem s < n+1),none,.st .term (fE (a7 n) s).1,[(900,.box (.st .par ((fE (a7 n) s).2)))]⟩):=
 g0 (sc fL (sc (hA) (sc dF (sc f9 (sc jt (sc (hL) sn)))))) ⟨[(3,fun S0=>⟨Nat × Trm × Par,fun y=>a8 y.2.2/\rem y.2.2 < y.1/\rem y.2.2 < n+1/\fQ (a7 n) (ao s).pos y.1 y.2.1 y.2.2=fE (a7 n) s,fun _=>[],fun y=>[(900,.box (.st .par y.2.2)),(4,.box (.st .term y.2.1))],fun y=>y.1⟩)],[],[]⟩ func65 (FJ n s ho)
theorem Ew (n:Nat) (hA:ad prog 117 (pP0 fun s=>⟨some (a8 s/\rem s < n+1),none,.st .term (dB (a7 n) s).1,[(900,.box (.st .par (dB (a7 n) s).2))]⟩)) (hL:ad prog 60 (qw 118 fun x b e s mp=>⟨some (a8 s/\rem s < n/\mp=x.parts.length/\mp<=1),none,.tup [],[(900,.box (.st .par (ab b e (aq (a7 n)) x s).2)),(901,.box (.agg [.int .i64 ((ab b e (aq (a7 n)) x s).1).kind,.str ((ab b e (aq (a7 n)) x s).1).pkg,.str ((ab b e (aq (a7 n)) x s).1).name,.int .i64 ((ab b e (aq (a7 n)) x s).1).n,.nils,.nils,.nils,.lst (.st .term) ((ab b e (aq (a7 n)) x s).1).parts (some 903),.int .i64 ((ab b e (aq (a7 n)) x s).1).pos])),(902,.box (.ptr 900 0)),(903,.tail (.st .term) (ab b e (aq (a7 n)) x s).1.parts.length)]⟩)):ad prog 65 (pP0 fun s=>⟨some (a8 s/\rem s < n+1),none,.st .term (fE (a7 n) s).1,[(900,.box (.st .par ((fE (a7 n) s).2)))]⟩):=
 iC FY (fun _=>rfl) (fun _=>by simp [am]) fun s ho=>yC n s (ho _ rfl) hA hL
theorem FZ:au prog 117:=ee func117
theorem yD (n:Nat) (s:Par)  (ho:a8 s/\rem s < n+1) (hT:ad prog 34 (pP0 fun s=>⟨some (a8 s/\rem s < n),none,.st .term (a7 n s).1,[(900,.box (.st .par (a7 n s).2))]⟩)) (hL:ad prog 60 (qv 165 fun x b e s=>⟨some (a8 s/\rem s<=n),none,.tup [],[(900,.box (.st .par (ab b e (ah (a7 n)) x s).2)),(901,.box (.agg [.int .i64 ((ab b e (ah (a7 n)) x s).1).kind,.str ((ab b e (ah (a7 n)) x s).1).pkg,.str ((ab b e (ah (a7 n)) x s).1).name,.int .i64 ((ab b e (ah (a7 n)) x s).1).n,.lst .str ((ab b e (ah (a7 n)) x s).1).names (some 701),.nils,.nils,.lst (.st .term) ((ab b e (ah (a7 n)) x s).1).parts (some 702),.int .i64 ((ab b e (ah (a7 n)) x s).1).pos])),(902,.box (.ptr 900 0)),(701,.tail .str (ab b e (ah (a7 n)) x s).1.names.length),(702,.tail (.st .term) (ab b e (ah (a7 n)) x s).1.parts.length)]⟩)) (hI:ad prog 166 (pP0 fun s=>⟨some (a8 s/\rem (aj [40] s) < n),none,.lst (.st .term) (cU (a7 n) s).1 none,[(900,.box (.st .par (cU (a7 n) s).2))]⟩)):ar prog 117 [.ptr 900 0] [(900,.box (.st .par s))] (⟨some (a8 s/\rem s < n+1),none,.st .term (dB (a7 n) s).1,[(900,.box (.st .par ((dB (a7 n) s).2)))]⟩):=
 g0 (sc fL (sc dF (sc (vQ) (sc f9 (sc jt (sc cN (sc ju (sc gG (sc (hT) (sc (hL) (sc (hI) sn))))))))))) a0 func117 (FK n s ho)
theorem Ex (n:Nat) (hT:ad prog 34 (pP0 fun s=>⟨some (a8 s/\rem s < n),none,.st .term (a7 n s).1,[(900,.box (.st .par (a7 n s).2))]⟩)) (hL:ad prog 60 (qv 165 fun x b e s=>⟨some (a8 s/\rem s<=n),none,.tup [],[(900,.box (.st .par (ab b e (ah (a7 n)) x s).2)),(901,.box (.agg [.int .i64 ((ab b e (ah (a7 n)) x s).1).kind,.str ((ab b e (ah (a7 n)) x s).1).pkg,.str ((ab b e (ah (a7 n)) x s).1).name,.int .i64 ((ab b e (ah (a7 n)) x s).1).n,.lst .str ((ab b e (ah (a7 n)) x s).1).names (some 701),.nils,.nils,.lst (.st .term) ((ab b e (ah (a7 n)) x s).1).parts (some 702),.int .i64 ((ab b e (ah (a7 n)) x s).1).pos])),(902,.box (.ptr 900 0)),(701,.tail .str (ab b e (ah (a7 n)) x s).1.names.length),(702,.tail (.st .term) (ab b e (ah (a7 n)) x s).1.parts.length)]⟩)) (hI:ad prog 166 (pP0 fun s=>⟨some (a8 s/\rem (aj [40] s) < n),none,.lst (.st .term) (cU (a7 n) s).1 none,[(900,.box (.st .par (cU (a7 n) s).2))]⟩)):ad prog 117 (pP0 fun s=>⟨some (a8 s/\rem s < n+1),none,.st .term (dB (a7 n) s).1,[(900,.box (.st .par ((dB (a7 n) s).2)))]⟩):=
 iC FZ (fun _=>rfl) (fun _=>by simp [am]) fun s ho=>yD n s (ho _ rfl) hT hL hI
theorem Af:au prog 34:=ee func34
theorem yE (n:Nat) (s:Par)  (ho:a8 s/\rem s < n+1) (hPo:ad prog 56 (pT_ fun x s=>⟨some (a8 s/\rem s < n),none,.tup [],[(900,.box (.agg [.int .i64 x.kind,.str x.pkg,.str x.name,.int .i64 x.n,.nils,.nils,.nils,.lst (.st .term) ((x.parts++[(a7 n s).1])) (some 8),.int .i64 x.pos])),(901,.box (.ptr 902 0)),(902,.box (.st .par (a7 n s).2)),(8,.tail (.st .term) (x.parts++[(a7 n s).1]).length)]⟩)) (hPp:ad prog 56 (tU fun x s mp=>⟨some (a8 s/\rem s < n/\mp=x.parts.length/\mp<=100000),none,.tup [],[(900,.box (.agg [.int .i64 x.kind,.str x.pkg,.str x.name,.int .i64 x.n,.nils,.nils,.nils,.lst (.st .term) ((x.parts++[(a7 n s).1])) (some 902),.int .i64 x.pos])),(901,.box (.ptr 903 0)),(902,.tail (.st .term) (x.parts++[(a7 n s).1]).length),(903,.box (.st .par (a7 n s).2))]⟩)) (hPns:ad prog 56 (zW fun x s mn ms=>⟨some (a8 s/\rem s < n/\mn=x.names.length/\ms=x.shapes.length/\mn+ms<=100000),none,.tup [],[(900,.box (.agg [.int .i64 x.kind,.str x.pkg,.str x.name,.int .i64 x.n,.lst .str (x.names) (some 902),.nils,.lst (.st .shape) (x.shapes) (some 903),.lst (.st .term) ((x.parts++[(a7 n s).1])) (some 8),.int .i64 x.pos])),(901,.box (.ptr 904 0)),(902,.tail .str x.names.length),(903,.tail (.st .shape) x.shapes.length),(904,.box (.st .par (a7 n s).2)),(8,.tail (.st .term) (x.parts++[(a7 n s).1]).length)]⟩)) (hF:ad prog 60 (zY 61 57 fun x b e s=>⟨some (a8 s/\rem s<=n),none,.tup [],[(900,.box (.st .par (ab b e (az) x s).2)),(901,.box (.agg [.int .i64 ((ab b e (az) x s).1).kind,.str ((ab b e (az) x s).1).pkg,.str ((ab b e (az) x s).1).name,.int .i64 ((ab b e (az) x s).1).n,.lst .str ((ab b e (az) x s).1).names (some 701),.nils,.lst (.st .shape) ((ab b e (az) x s).1).shapes (some 702),.nils,.int .i64 ((ab b e (az) x s).1).pos])),(902,.box (.ptr 900 0)),(903,.box (.fn 57 [.ptr 902 0,.ptr 901 0])),(701,.tail .str (ab b e (az) x s).1.names.length),(702,.tail (.st .shape) (ab b e (az) x s).1.shapes.length)]⟩)) (hW:ad prog 60 (zZ 64 57 56 fun x b e s mp=>⟨some (a8 s/\rem s<=n/\mp=x.parts.length/\mp<=1),none,.tup [],[(900,.box (.st .par (ab b e (ai (a7 n)) x s).2)),(901,.box (.agg [.int .i64 ((ab b e (ai (a7 n)) x s).1).kind,.str ((ab b e (ai (a7 n)) x s).1).pkg,.str ((ab b e (ai (a7 n)) x s).1).name,.int .i64 ((ab b e (ai (a7 n)) x s).1).n,.lst .str ((ab b e (ai (a7 n)) x s).1).names (some 701),.lst .str ((ab b e (ai (a7 n)) x s).1).vars (some 702),.lst (.st .shape) ((ab b e (ai (a7 n)) x s).1).shapes (some 703),.lst (.st .term) ((ab b e (ai (a7 n)) x s).1).parts (some 905),.int .i64 ((ab b e (ai (a7 n)) x s).1).pos])),(902,.box (.ptr 900 0)),(903,.box (.fn 57 [.ptr 902 0,.ptr 901 0])),(904,.box (.fn 56 [.ptr 901 0,.ptr 902 0])),(701,.tail .str (ab b e (ai (a7 n)) x s).1.names.length),(702,.tail .str (ab b e (ai (a7 n)) x s).1.vars.length),(703,.tail (.st .shape) (ab b e (ai (a7 n)) x s).1.shapes.length),(905,.tail (.st .term) (ab b e (ai (a7 n)) x s).1.parts.length)]⟩)) (hE:ad prog 60 (qv 56 fun x b e s=>⟨some (a8 s/\rem s < n),none,.tup [],[(900,.box (.st .par (ab b e (aq (a7 n)) x s).2)),(901,.box (.agg [.int .i64 ((ab b e (aq (a7 n)) x s).1).kind,.str ((ab b e (aq (a7 n)) x s).1).pkg,.str ((ab b e (aq (a7 n)) x s).1).name,.int .i64 ((ab b e (aq (a7 n)) x s).1).n,.nils,.nils,.nils,.lst (.st .term) ((ab b e (aq (a7 n)) x s).1).parts (some 701),.int .i64 ((ab b e (aq (a7 n)) x s).1).pos])),(902,.box (.ptr 900 0)),(701,.tail (.st .term) (ab b e (aq (a7 n)) x s).1.parts.length)]⟩)) (hO:ad prog 65 (pP0 fun s=>⟨some (a8 s/\rem s < n+1),none,.st .term (fE (a7 n) s).1,[(900,.box (.st .par (fE (a7 n) s).2))]⟩)):ar prog 34 [.ptr 900 0] [(900,.box (.st .par s))] (⟨some (a8 s/\rem s < n+1),none,.st .term (a7 (n+1) s).1,[(900,.box (.st .par ((a7 (n+1) s).2)))]⟩):=
 g0 (sc fL (sc f9 (sc cN (sc jt (sc BT (sc nj (sc qV (sc (hPo) (sc (hPp) (sc (hPns) (sc (hF) (sc (hW) (sc (hE) (sc (hO) sn)))))))))))))) a0 func34 (FL n s ho)
theorem wt:∀n:Nat,ad prog 34 (pP0 fun s=>⟨some (a8 s/\rem s < n),none,.st .term (a7 n s).1,[(900,.box (.st .par (a7 n s).2))]⟩)
 | 0=>iC Af (fun _=>rfl) (fun _=>by simp [am]) fun s ho=>absurd (ho _ rfl).2 (Nat.not_lt_zero _)
 | n+1=>by
  have hT:=wt n
  exact iC Af (fun _=>rfl) (fun _=>by simp [am]) fun s ho=>
   yE n s (ho _ rfl) (yw n hT) (qU n hT) (wl n hT) (Es n) (Et n (FV n (rP n hT))) (BX n (qU n hT))
    (Ew n (Ex n hT (yB n (BU n hT)) (BW n hT)) (BZ n (yy n hT)))
theorem sx:ad prog 28 (p2 (.lst (.st .token)) (.int .i64) fun l a=>⟨none,none,.ptr 10 0,[(10,.box (.st .par (bh l a)))]⟩):=
 iA (ee func28) fun l a hl _ _=>g0 (sc gG sn) a0 func28 (E7 l a hl)
theorem qW:ad prog 42 (p2 (.lst (.st .token)) (.int .i64) fun l a=>⟨some (0<=a/\a < (l.length:Int)),none,.st .fault (dM l a),[]⟩):=
 iA (ee func42) fun l a hl _ ho=>g0 sn a0 func42 (Bp l a hl (ho _ rfl))
theorem Ey:ad prog 12 (p2 (.lst (.st .token)) (.int .i64) fun l a=>⟨some (oT l),none,.tup [.st .shape (gP l a).1,.int .i64 (gP l a).2.1,.st .fault (gP l a).2.2],[]⟩):=
 iA (ee func12) fun l a _ _ ho=>g0 (sc sx (sc dF (sc ju sn))) a0 func12 (FM l a (ho _ rfl))
theorem sy:au prog 66:=ee func66
theorem ui (n:Nat) (t:Trm) (m:Int) (hs:Wf (.st .term) t) (hz:szT t<=n+1) (h0:0<=m) (h1:m<=1000000) (hA:ad prog 66 (p2 (.st .term) (.int .i64) fun t m=>⟨some (szT t<=n/\0<=m/\m<=1000000),none,.tup [.int .i64 (countT t m).1,.int .i64 (countT t m).2],[]⟩)):ar prog 66 [.st .term t,.int .i64 m] [] (⟨some (szT t<=n+1/\0<=m/\m<=1000000),none,.tup [.int .i64 (countT t m).1,.int .i64 (countT t m).2],[]⟩):=
 g0 (sc (hA) sn) ⟨[(3,fun S0=>⟨Nat × Int × Int,fun y=>y.1<=t.parts.length/\1<=y.2.1/\y.2.1<=m+1/\0<=y.2.2/\y.2.2+1<=y.2.1/\countL (t.parts.drop y.1) m y.2.1 y.2.2=countL t.parts m 1 0,fun y=>[(6,.int .i64 y.2.1),(7,.int .i64 y.2.2),(15,.int .i64 y.1)],fun _=>[],fun y=>t.parts.length - y.1⟩)],[],[]⟩ func66 (Bq n t m hs hz h0 h1)
theorem qX:∀n:Nat,ad prog 66 (p2 (.st .term) (.int .i64) fun t m=>⟨some (szT t<=n/\0<=m/\m<=1000000),none,.tup [.int .i64 (countT t m).1,.int .i64 (countT t m).2],[]⟩)
 | 0=>iA sy fun t m hs _ ho=>absurd (ho _ rfl).1 (by have:=tX t;omega)
 | n+1=>iA sy fun t m hs _ ho=>ui n t m hs (ho _ rfl).1 (ho _ rfl).2.1 (ho _ rfl).2.2 (qX n)
theorem wu:ad prog 214 (pcl .str 130 fun x=>⟨none,none,.bool (!aQ x),[]⟩):=
 tY (ee func214) fun x _ ho=>g0 (sc kT sn) a0 func214 (yh x)
theorem wv:ad prog 244 (pfc (.lst .str) 214 130 fun l=>⟨none,none,.int .i64 (cd aQ l 0),[]⟩):=
 kN (ee func244) fun l hl ho=>g0 (sc wu sn) ⟨[(2,fun S0=>⟨Nat,fun k=>k<=l.length/\cd aQ (l.drop k) k=cd aQ l 0,fun k=>[(8,.int .i64 k)],fun _=>[],fun k=>l.length - k⟩)],[],[]⟩ func244 (yi l hl)
theorem ww:ad prog 213 (pfc (.lst .str) 214 130 fun l=>⟨none,none,.bool (!l.all aQ),[]⟩):=
 kN (ee func213) fun l _ ho=>g0 (sc wv sn) a0 func213 (yj l)
theorem sA:ad prog 172 (pf (.lst .str) 130 fun l=>⟨none,none,.bool (l.all aQ),[]⟩):=
 oE (ee func172) fun l _ ho=>g0 (sc ww sn) a0 func172 (E8 l)
theorem C0:ad prog 171 (p1 (.lst .str) fun l=>⟨some (l.length *16<=140737488355328),none,.bool (l.all aQ && decide l.Nodup),[]⟩):=
 be (ee func171) fun l _ ho=>g0 (sc qS (sc (qG) (sc sA (sc (oJ) sn)))) a0 func171 (E9 l (ho _ rfl))
theorem yF:au prog 210:=ee func210
theorem rQ (n:Nat) (x:Shape)  (ho:sz x<=n) (hA:ad prog 211 (p1 (.st .shape) fun s=>⟨some (sz s<=n),none,.bool (allS bV s),[]⟩)):ar prog 210 [.st .shape x,.ptr 900 0] [(900,.box (.fn 211 []))] (⟨some (sz x<=n),none,.bool (!(allS bV) x),[]⟩):=
 g0 (sc (hA) sn) a0 func210 (yk n x ho)
theorem wy (n:Nat) (hA:ad prog 211 (p1 (.st .shape) fun s=>⟨some (sz s<=n),none,.bool (allS bV s),[]⟩)):ad prog 210 (pcl (.st .shape) 211 fun x=>⟨some (sz x<=n),none,.bool (!(allS bV) x),[]⟩):=
 tY yF fun x _ ho=>rQ n x (ho _ rfl) hA
theorem yG:au prog 242:=ee func242
theorem rR (n:Nat) (l:List AL.Shape)  (hl:Wf (.lst (.st .shape)) l) (ho:∀x∈l,sz x<=n) (hA:ad prog 211 (p1 (.st .shape) fun s=>⟨some (sz s<=n),none,.bool (allS bV s),[]⟩)):ar prog 242 [.lst (.st .shape) l none,.fn 210 [.ptr 900 0]] [(900,.box (.fn 211 []))] (⟨some (∀x∈l,sz x<=n),none,.int .i64 (cd (allS bV) l 0),[]⟩):=
 g0 (sc ((wy n hA)) sn) ⟨[(2,fun S0=>⟨Nat,fun k=>k<=l.length/\cd (allS bV) (l.drop k) k=cd (allS bV) l 0,fun k=>[(8,.int .i64 k)],fun _=>[],fun k=>l.length - k⟩)],[],[]⟩ func242 (yl n l hl ho)
theorem wz (n:Nat) (hA:ad prog 211 (p1 (.st .shape) fun s=>⟨some (sz s<=n),none,.bool (allS bV s),[]⟩)):ad prog 242 (pfc (.lst (.st .shape)) 210 211 fun l=>⟨some (∀x∈l,sz x<=n),none,.int .i64 (cd (allS bV) l 0),[]⟩):=
 kN yG fun l hl ho=>rR n l hl (ho _ rfl) hA
theorem yH:au prog 209:=ee func209
theorem rS (n:Nat) (l:List AL.Shape)  (ho:∀x∈l,sz x<=n) (hA:ad prog 211 (p1 (.st .shape) fun s=>⟨some (sz s<=n),none,.bool (allS bV s),[]⟩)):ar prog 209 [.lst (.st .shape) l none,.fn 210 [.ptr 900 0]] [(900,.box (.fn 211 []))] (⟨some (∀x∈l,sz x<=n),none,.bool (!l.all (allS bV)),[]⟩):=
 g0 (sc ((wz n hA)) sn) a0 func209 (ym n l ho)
theorem wA (n:Nat) (hA:ad prog 211 (p1 (.st .shape) fun s=>⟨some (sz s<=n),none,.bool (allS bV s),[]⟩)):ad prog 209 (pfc (.lst (.st .shape)) 210 211 fun l=>⟨some (∀x∈l,sz x<=n),none,.bool (!l.all (allS bV)),[]⟩):=
 kN yH fun l _ ho=>rS n l (ho _ rfl) hA
theorem Ez:au prog 168:=ee func168
theorem wB (n:Nat) (l:List AL.Shape)  (ho:∀x∈l,sz x<=n) (hA:ad prog 211 (p1 (.st .shape) fun s=>⟨some (sz s<=n),none,.bool (allS bV s),[]⟩)):ar prog 168 [.lst (.st .shape) l none,.fn 211 []] [] (⟨some (∀x∈l,sz x<=n),none,.bool (l.all (allS bV)),[]⟩):=
 g0 (sc ((wA n hA)) sn) a0 func168 (Ea n l ho)
theorem C1 (n:Nat) (hA:ad prog 211 (p1 (.st .shape) fun s=>⟨some (sz s<=n),none,.bool (allS bV s),[]⟩)):ad prog 168 (pf (.lst (.st .shape)) 211 fun l=>⟨some (∀x∈l,sz x<=n),none,.bool (l.all (allS bV)),[]⟩):=
 oE Ez fun l _ ho=>wB n l (ho _ rfl) hA
theorem Ag:au prog 211:=ee func211
theorem yI (n:Nat) (s:AL.Shape) (ho:sz s<=n+1) (hE:ad prog 168 (pf (.lst (.st .shape)) 211 fun l=>⟨some (∀x∈l,sz x<=n),none,.bool (l.all (allS bV)),[]⟩)):ar prog 211 [.st .shape s] [] (⟨some (sz s<=n+1),none,.bool (allS bV s),[]⟩):=
 g0 (sc (hE) sn) a0 func211 (FN n s ho)
theorem wC:∀n:Nat,ad prog 211 (p1 (.st .shape) fun s=>⟨some (sz s<=n),none,.bool (allS bV s),[]⟩)
 | 0=>be Ag fun s _ ho=>absurd (ho _ rfl) (by have:=qq s;omega)
 | n+1=>be Ag fun s _ ho=>yI n s (ho _ rfl) (C1 n (wC n))
theorem yJ:ad prog 169 (p1 (.st .shape) fun s=>.ret (.bool (decide (dO s=0) && allS bV s))):=
 be (ee func169) fun s _ _=>g0 (sc sw (sc (wC 400) sn)) a0 func169 (Br s)
theorem G0:ad prog 167 (p1 (.st .term) fun t=>.ret (.agg [.int .i64 (t.names.length:Int),.int .i64 (t.vars.length:Int),.int .i64 (t.shapes.length:Int),.int .i64 (t.parts.length:Int)])):=
 be (ee func167) fun t _ _=>g0 sn a0 func167 (GO t)
theorem C2:ad prog 170 (p1 .str fun s=>.ret (.bool (qI s))):=
 be (ee func170) fun s hs _=>g0 (sc (B8) sn) ⟨[(2,fun S0=>⟨Nat,fun k=>k<=s.length/\(s.all iF)=(s.drop k).all iF,fun k=>[(8,.int .i64 k)],fun _=>[],fun k=>s.length - k⟩)],[],[]⟩ func170 (Eb s hs)
theorem uj:ad prog 210 (pcl (.st .shape) 169 fun x=>⟨none,none,.bool (!cW x),[]⟩):=
 tY (ee func210) fun x _ ho=>g0 (sc yJ sn) a0 func210 (vZ x)
theorem uk:ad prog 242 (pfc (.lst (.st .shape)) 210 169 fun l=>⟨none,none,.int .i64 (cd cW l 0),[]⟩):=
 kN (ee func242) fun l hl ho=>g0 (sc uj sn) ⟨[(2,fun S0=>⟨Nat,fun k=>k<=l.length/\cd cW (l.drop k) k=cd cW l 0,fun k=>[(8,.int .i64 k)],fun _=>[],fun k=>l.length - k⟩)],[],[]⟩ func242 (w4 l hl)
theorem ul:ad prog 209 (pfc (.lst (.st .shape)) 210 169 fun l=>⟨none,none,.bool (!l.all cW),[]⟩):=
 kN (ee func209) fun l _ ho=>g0 (sc uk sn) a0 func209 (w5 l)
theorem yK:ad prog 168 (pf (.lst (.st .shape)) 169 fun l=>⟨none,none,.bool (l.all cW),[]⟩):=
 oE (ee func168) fun l _ ho=>g0 (sc ul sn) a0 func168 (Bt l)
theorem C3:ad prog 119 (p1 (.st .term) fun t=>⟨some (t.names.length<=1000000),none,.bool (bi t),[]⟩):=
 be (ee func119) fun t ht ho=>g0 (sc G0 (sc yK (sc C2 (sc kT (sc C0 (sc sA (sc o9 sn))))))) ⟨[],[],[(2,fun S0=>⟨[(34,.bool (!oL t))],[]⟩)]⟩ func119 (Ec t ht (ho _ rfl))
theorem wD:au prog 100:=ee func100
theorem qY (n:Nat) (x:Trm)  (ho:szT x<=n/\cC x=true) (hA:ad prog 67 (p1 (.st .term) fun t=>⟨some (szT t<=n/\cC t=true),none,.bool (allT bi t),[]⟩)):ar prog 100 [.st .term x,.ptr 900 0] [(900,.box (.fn 67 []))] (⟨some (szT x<=n/\cC x=true),none,.bool (!(allT bi) x),[]⟩):=
 g0 (sc (hA) sn) a0 func100 (w6 n x ho)
theorem um (n:Nat) (hA:ad prog 67 (p1 (.st .term) fun t=>⟨some (szT t<=n/\cC t=true),none,.bool (allT bi t),[]⟩)):ad prog 100 (pcl (.st .term) 67 fun x=>⟨some (szT x<=n/\cC x=true),none,.bool (!(allT bi) x),[]⟩):=
 tY wD fun x _ ho=>qY n x (ho _ rfl) hA
theorem wE:au prog 161:=ee func161
theorem qZ (n:Nat) (l:List Trm)  (hl:Wf (.lst (.st .term)) l) (ho:∀x∈l,szT x<=n/\cC x=true) (hA:ad prog 67 (p1 (.st .term) fun t=>⟨some (szT t<=n/\cC t=true),none,.bool (allT bi t),[]⟩)):ar prog 161 [.lst (.st .term) l none,.fn 100 [.ptr 900 0]] [(900,.box (.fn 67 []))] (⟨some (∀x∈l,szT x<=n/\cC x=true),none,.int .i64 (cd (allT bi) l 0),[]⟩):=
 g0 (sc ((um n hA)) sn) ⟨[(2,fun S0=>⟨Nat,fun k=>k<=l.length/\cd (allT bi) (l.drop k) k=cd (allT bi) l 0,fun k=>[(8,.int .i64 k)],fun _=>[],fun k=>l.length - k⟩)],[],[]⟩ func161 (w7 n l hl ho)
theorem uo (n:Nat) (hA:ad prog 67 (p1 (.st .term) fun t=>⟨some (szT t<=n/\cC t=true),none,.bool (allT bi t),[]⟩)):ad prog 161 (pfc (.lst (.st .term)) 100 67 fun l=>⟨some (∀x∈l,szT x<=n/\cC x=true),none,.int .i64 (cd (allT bi) l 0),[]⟩):=
 kN wE fun l hl ho=>qZ n l hl (ho _ rfl) hA
theorem wF:au prog 99:=ee func99
theorem r6 (n:Nat) (l:List Trm)  (ho:∀x∈l,szT x<=n/\cC x=true) (hA:ad prog 67 (p1 (.st .term) fun t=>⟨some (szT t<=n/\cC t=true),none,.bool (allT bi t),[]⟩)):ar prog 99 [.lst (.st .term) l none,.fn 100 [.ptr 900 0]] [(900,.box (.fn 67 []))] (⟨some (∀x∈l,szT x<=n/\cC x=true),none,.bool (!l.all (allT bi)),[]⟩):=
 g0 (sc ((uo n hA)) sn) a0 func99 (w8 n l ho)
theorem up (n:Nat) (hA:ad prog 67 (p1 (.st .term) fun t=>⟨some (szT t<=n/\cC t=true),none,.bool (allT bi t),[]⟩)):ad prog 99 (pfc (.lst (.st .term)) 100 67 fun l=>⟨some (∀x∈l,szT x<=n/\cC x=true),none,.bool (!l.all (allT bi)),[]⟩):=
 kN wF fun l _ ho=>r6 n l (ho _ rfl) hA
theorem C4:au prog 49:=ee func49
theorem uq (n:Nat) (l:List Trm)  (ho:∀x∈l,szT x<=n/\cC x=true) (hA:ad prog 67 (p1 (.st .term) fun t=>⟨some (szT t<=n/\cC t=true),none,.bool (allT bi t),[]⟩)):ar prog 49 [.lst (.st .term) l none,.fn 67 []] [] (⟨some (∀x∈l,szT x<=n/\cC x=true),none,.bool (l.all (allT bi)),[]⟩):=
 g0 (sc ((up n hA)) sn) a0 func49 (Bu n l ho)
theorem yL (n:Nat) (hA:ad prog 67 (p1 (.st .term) fun t=>⟨some (szT t<=n/\cC t=true),none,.bool (allT bi t),[]⟩)):ad prog 49 (pf (.lst (.st .term)) 67 fun l=>⟨some (∀x∈l,szT x<=n/\cC x=true),none,.bool (l.all (allT bi)),[]⟩):=
 oE C4 fun l _ ho=>uq n l (ho _ rfl) hA
theorem sB:au prog 67:=ee func67
theorem ur (n:Nat) (t:Trm) (ho:szT t<=n+1/\cC t=true) (hE:ad prog 49 (pf (.lst (.st .term)) 67 fun l=>⟨some (∀x∈l,szT x<=n/\cC x=true),none,.bool (l.all (allT bi)),[]⟩)):ar prog 67 [.st .term t] [] (⟨some (szT t<=n+1/\cC t=true),none,.bool (allT bi t),[]⟩):=
 g0 (sc C3 (sc (hE) sn)) a0 func67 (Bv n t ho)
theorem r8:∀n:Nat,ad prog 67 (p1 (.st .term) fun t=>⟨some (szT t<=n/\cC t=true),none,.bool (allT bi t),[]⟩)
 | 0=>be sB fun t _ ho=>absurd (ho _ rfl).1 (by have:=tX t;omega)
 | n+1=>be sB fun t _ ho=>ur n t (ho _ rfl) (yL n (r8 n))
theorem ut (x:Trm) (ho:cC x=true) :ar prog 35 [.st .term x] [] (⟨some (cC x=true),none,.int .i64 (ff x),[]⟩):=
 g0 (sc (qX (szT x)) (sc (r8 (szT x)) sn)) a0 func35 (Bw x ho)
theorem yM:ad prog 35 (p1 (.st .term) fun t=>⟨some (cC t=true),none,.int .i64 (ff t),[]⟩):=
 be (ee func35) fun t _ ho=>ut t (ho _ rfl)
theorem oa:ad prog 80 (pLn fun s p n k=>⟨some (s.length<=4096/\0<=p/\p<=(s.length:Int)/\0<=k/\k<=2),none,.int .u8 (bAt s (p+k)),[]⟩):=
 GD (ee func80) fun s p n k ho=>g0 sn a0 func80 (Ed s p n k (ho _ rfl))
theorem EA:ad prog 133 (p1 (.int .u8) fun c=>.ret (.bool (aD c))):=
 be (ee func133) fun c _ _=>g0 (sc jr (sc js (sc o8 sn))) a0 func133 (FO c)
theorem C5:ad prog 82 (p1 (.int .u8) fun c=>.ret (.bool (bE c))):=
 be (ee func82) fun c _ _=>g0 sn a0 func82 (Ee c)
theorem yN:ad prog 194 (p1 (.int .u8) fun c=>.ret (.bool (aI c))):=
 be (ee func194) fun c _ _=>g0 sn a0 func194 (Bx c)
theorem yO:ad prog 81 (pLf 128 fun s p n=>⟨some (s.length<=4096/\0<=p/\p<=(s.length:Int)),none,.str (cut s p (p+ae bp s p)),[(900,.box (.agg [.str s,.int .i64 (p+ae bp s p)]))]⟩):=
 u4 (ee func81) fun s p n ho=>g0 (sc qR sn) ⟨[(2,fun S0=>⟨Nat,fun k=>p+k<=(s.length:Int)/\ae bp s p=k+ae bp s (p+k),fun _=>[],fun k=>[(900,.box (.agg [.str s,.int .i64 (p+(k:Int))]))],fun k=>s.length - k⟩)],[],[]⟩ func81 (By s p n (ho _ rfl))
theorem yP:ad prog 81 (pLf 133 fun s p n=>⟨some (s.length<=4096/\0<=p/\p<=(s.length:Int)),none,.str (cut s p (p+ae aD s p)),[(900,.box (.agg [.str s,.int .i64 (p+ae aD s p)]))]⟩):=
 u4 (ee func81) fun s p n ho=>g0 (sc EA sn) ⟨[(2,fun S0=>⟨Nat,fun k=>p+k<=(s.length:Int)/\ae aD s p=k+ae aD s (p+k),fun _=>[],fun k=>[(900,.box (.agg [.str s,.int .i64 (p+(k:Int))]))],fun k=>s.length - k⟩)],[],[]⟩ func81 (Bz s p n (ho _ rfl))
theorem yQ:ad prog 81 (pLf 82 fun s p n=>⟨some (s.length<=4096/\0<=p/\p<=(s.length:Int)),none,.str (cut s p (p+ae bE s p)),[(900,.box (.agg [.str s,.int .i64 (p+ae bE s p)]))]⟩):=
 u4 (ee func81) fun s p n ho=>g0 (sc C5 sn) ⟨[(2,fun S0=>⟨Nat,fun k=>p+k<=(s.length:Int)/\ae bE s p=k+ae bE s (p+k),fun _=>[],fun k=>[(900,.box (.agg [.str s,.int .i64 (p+(k:Int))]))],fun k=>s.length - k⟩)],[],[]⟩ func81 (BA s p n (ho _ rfl))
theorem yR:ad prog 81 (pLf 194 fun s p n=>⟨some (s.length<=4096/\0<=p/\p<=(s.length:Int)),none,.str (cut s p (p+ae aI s p)),[(900,.box (.agg [.str s,.int .i64 (p+ae aI s p)]))]⟩):=
 u4 (ee func81) fun s p n ho=>g0 (sc yN sn) ⟨[(2,fun S0=>⟨Nat,fun k=>p+k<=(s.length:Int)/\ae aI s p=k+ae aI s (p+k),fun _=>[],fun k=>[(900,.box (.agg [.str s,.int .i64 (p+(k:Int))]))],fun k=>s.length - k⟩)],[],[]⟩ func81 (BB s p n (ho _ rfl))
theorem yS:ad prog 123 (p1 .str fun s=>⟨some (s.length<=4096),none,.tup [.undef,.st .fault (u5 s)],[]⟩):=
 be (ee func123) fun s _ ho=>g0 (sc (qH) sn) ⟨[(3,fun S0=>⟨Nat × List Int,fun y=>y.1<=s.length/\y.2.length<=y.1/\cu s=fI s y.1,fun y=>[(4,.lst (.int .i64) y.2 (some 10)),(5,.int .i64 y.1)],fun y=>[(10,.tail (.int .i64) y.2.length)],fun y=>s.length - y.1⟩)],[],[]⟩ func123 (BC s (ho _ rfl))
theorem oO:ad prog 191 (p1 .str fun s=>.ret (.bool (bG s))):=
 be (ee func191) fun s _ _=>g0 (sc (vR) sn) a0 func191 (yn s)
theorem C6:ad prog 223 (p1 .str fun s=>.ret (.bool (cv s))):=
 be (ee func223) fun s hs _=>g0 (sc oO sn) ⟨[(4,fun S0=>⟨Nat,fun k=>k<=s.length/\(s.all fun c=>eV (bI c))=(s.drop k).all fun c=>eV (bI c),fun k=>[(22,.int .i64 k)],fun _=>[],fun k=>s.length - k⟩)],[],[]⟩ func223 (Ef s hs)
theorem yT:ad prog 192 (p1 (.st .version) fun v=>.ret (.int .i64 (bz v))):=
 be (ee func192) fun v hv _=>g0 (sc (so) (sc C6 sn)) ⟨[(2,fun S0=>⟨Nat,fun k=>k<=3/\([v.major,v.minor,v.patch].take k).all oV=true,fun k=>[(15,.int .i64 k)],fun _=>[],fun k=>3 - k⟩),(11,fun S0=>⟨Nat,fun k=>k<=(splitB 46 v.pre).length/\((splitB 46 v.pre).take k).all cv=true,fun k=>[(37,.int .i64 k)],fun _=>[],fun k=>(splitB 46 v.pre).length - k⟩)],[],[]⟩ func192 (BD v hv)
theorem yU:ad prog 135 (p1 .str fun s=>⟨some (s.length<=4096),none,.tup [.st .version (bQ s).1,.int .i64 (bQ s).2],[]⟩):=
 be (ee func135) fun s _ ho=>g0 (sc (Ft) (sc (so) (sc oO (sc (vQ) (sc yT sn))))) ⟨[(7,fun S0=>⟨Nat,fun k=>k<=3/\((splitB 46 (aC s)).take k).all dX=true,fun k=>[(34,.int .i64 k)],fun k=>[(8,.box (.row (.int .i64) (nf s k)))],fun k=>3 - k⟩)],[],[]⟩ func135 (BE s (ho _ rfl))
theorem oc:ad prog 124 (pC2 fun s c n e a=>⟨some (n=c.out.length),none,.bool false,[(900,.box (.agg [.str s,.int .i64 ((eM e a c).2).pos,.lst (.st .token) ((eM e a c).2).out (some 901),.int .i64 ((eM e a c).2).err,.int .i64 ((eM e a c).2).fat])),(901,.tail (.st .token) ((eM e a c).2).out.length)]⟩):=
 Dt (ee func124) fun s c n e a ho=>g0 sn a0 func124 (Eg s c n e a (ho _ rfl))
theorem ra:ad prog 83 (pC2 fun s c n a b=>⟨some (n=c.out.length/\s.length<=4096/\0<=a/\a<=b/\b<=(s.length:Int)),none,.bool (gK s a b c).1,[(900,.box (.agg [.str s,.int .i64 ((gK s a b c).2).pos,.lst (.st .token) ((gK s a b c).2).out (some 901),.int .i64 ((gK s a b c).2).err,.int .i64 ((gK s a b c).2).fat])),(901,.tail (.st .token) ((gK s a b c).2).out.length)]⟩):=
 Dt (ee func83) fun s c n a b ho=>g0 (sc yS (sc oc sn)) a0 func83 (BF s c n a b (ho _ rfl))
theorem EB:ad prog 125 (pCt fun s c n k t fr=>⟨some (n=c.out.length/\(n+1) *32<=140737488355328),none,.bool true,[(902,.box (.agg [.str s,.int .i64 ((gE k t fr c).2).pos,.lst (.st .token) ((gE k t fr c).2).out (some 903),.int .i64 ((gE k t fr c).2).err,.int .i64 ((gE k t fr c).2).fat])),(903,.tail (.st .token) (n+1))]⟩):=
 GE (ee func125) fun s c n k t fr ho=>g0 sn a0 func125 (FQ s c n k t fr (ho _ rfl))
theorem wG:ad prog 136 (pC0 fun s c n=>⟨some (n=c.out.length/\n<=4096/\s.length<=4096/\0<=c.pos/\c.pos<=(s.length:Int)/\c.pos < (s.length:Int)),none,.tup [.str (cm s c).1,.bool (cm s c).2.1],[(900,.box (.agg [.str s,.int .i64 ((cm s c).2.2).pos,.lst (.st .token) ((cm s c).2.2).out (some 901),.int .i64 ((cm s c).2.2).err,.int .i64 ((cm s c).2.2).fat])),(901,.tail (.st .token) ((cm s c).2.2).out.length)]⟩):=
 Ds (ee func136) fun s c n ho=>g1 nn (fun f=>if Nat.beq f 80 || Nat.beq f 81 then [some 2] else []) nn nn nn (sc oa (sc oc (sc (rL) (sc yR (sc ra sn))))) ⟨[(4,fun S0=>⟨Nat × Str × SC,fun y=>y.2.2.out=c.out/\y.2.2.err=c.err/\y.2.2.fat=c.fat/\0<=y.2.2.pos/\y.2.2.pos<=(s.length:Int)/\(y.2.1.length:Int)<=y.2.2.pos/\(s.length:Int) < y.2.2.pos+(y.1:Int)/\cm s c=bZ s c.pos y.1 y.2.1 y.2.2,fun y=>[(5,.lst (.int .u8) (aB y.2.1) (some 701))],fun y=>[(900,.box (.agg [.str s,.int .i64 (y.2.2).pos,.lst (.st .token) (y.2.2).out (some 901),.int .i64 (y.2.2).err,.int .i64 (y.2.2).fat])),(701,.tail (.int .u8) (aB y.2.1).length)],fun y=>y.1⟩)],[],[]⟩ func136 (yo s c n (ho _ rfl))
theorem EC:ad prog 137 (p1 .str fun s=>.ret (.bool (fG s))):=
 be (ee func137) fun s _ _=>g0 (sc (u7) sn) a0 func137 (FR s)
theorem yV:ad prog 84 (pC0 fun s c n=>⟨some (n=c.out.length/\n<=4096/\s.length<=4096/\0<=c.pos/\c.pos<=(s.length:Int)/\c.pos < (s.length:Int)),none,.bool (aN s c).1,[(900,.box (.agg [.str s,.int .i64 ((aN s c).2).pos,.lst (.st .token) ((aN s c).2).out (some 901),.int .i64 ((aN s c).2).err,.int .i64 ((aN s c).2).fat])),(901,.tail (.st .token) ((aN s c).2).out.length)]⟩):=
 Ds (ee func84) fun s c n ho=>g1 nn (fun f=>if Nat.beq f 80 || Nat.beq f 81 then [some 2] else []) nn nn (fun d=>Nat.beq d 21) (sc oa (sc jr (sc js (sc yO (sc wb (sc EB (sc kT (sc o9 (sc oc (sc o8 (sc yP (sc (vR) (sc yU (sc wG (sc EC sn))))))))))))))) ⟨[(24,fun S0=>⟨Nat,fun k=>k<=2/\(k<=1→fH s c.pos 2=false)/\(k=0→fH s c.pos 1=false),fun k=>[(12,.int .i64 k)],fun k=>[],fun k=>k⟩)],[],[]⟩ func84 (BG s c n (ho _ rfl))
theorem wH:ad prog 41 (p1 .str fun s=>.ret (.tup [.lst (.st .token) (aU s).1 none,.st .fault (aU s).2])):=
 be (ee func41) fun s hs _=>g1 nn (fun f=>if Nat.beq f 80 || Nat.beq f 81 then [some 2] else []) nn nn nn (sc oa (sc yQ (sc ra (sc yV sn)))) ⟨[(4,fun S0=>⟨Nat × SC,fun y=>(y.2.out.length:Int)<=y.2.pos/\(s.length:Int) < y.2.pos+(y.1:Int)/\0<=y.2.pos/\y.2.pos<=(s.length:Int)/\aU s=dK s y.1 y.2,fun y=>[],fun y=>[(14,.box (.agg [.str s,.int .i64 (y.2).pos,.lst (.st .token) (y.2).out (some 701),.int .i64 (y.2).err,.int .i64 (y.2).fat])),(701,.tail (.st .token) y.2.out.length)],fun y=>y.1⟩)],[],[]⟩ func41 (FT s hs)
theorem C7:ad prog 15 (p2 (.lst (.st .token)) (.int .i64) fun l a=>⟨some (oT l),none,.tup [.st .term (bB l a).1,.int .i64 (bB l a).2.1,.st .fault (bB l a).2.2],[]⟩):=
 iA (ee func15) fun l a hl _ ho=>g0 (sc sx (sc dF (sc fL (sc (wt 5000) (sc yM (sc gG sn)))))) a0 func15 (Eh l a hl (ho _ rfl))
theorem uu:ad prog 18 (p1 .str fun s=>.ret (.tup [.st .shape (o6 s).1,.st .fault (o6 s).2])):=
 be (ee func18) fun s _ _=>g0 (sc wH (sc Ey (sc qW sn))) a0 func18 (w9 s)
theorem nk:ad prog 20 (p1 .str fun s=>.ret (.tup [.st .term (iH s).1,.st .fault (iH s).2])):=
 be (ee func20) fun s _ _=>g0 (sc wH (sc C7 (sc qW sn))) a0 func20 (wa s)
end Go.AL.Seat
end
