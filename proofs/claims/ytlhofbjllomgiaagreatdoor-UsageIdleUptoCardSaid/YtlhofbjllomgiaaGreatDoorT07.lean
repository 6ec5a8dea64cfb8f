/- Plain facts. The layer: Go code as conditions, and that they are sound. What the functions' conditions say, proved. No condition. -/
import Derived.Test.YtlhofbjllomgiaaGreatDoorT06
import Derived.Below
import Derived.Deep.RegionHeld3
import Derived.Handy
import Derived.LoopIn
import Derived.LoopNIn
import Derived.Maps.RangeRun
import Derived.OrdersIn
import Derived.OwnWalkIn
import Derived.RangeFuncIn
import Derived.RangeFuncLeaves
import Derived.RangeFuncSeq
import Derived.Shelf.SlIter.Collect
import Derived.Shelf.SlSortCmp.NoneTotal
import Derived.Shelf.SlSortCmp.QuietGrown
import Derived.Shelf.SlSortCmp.WholeK
import Derived.Sort.Walk0
import Derived.TacticsInMore
import Derived.Test.YtlhofbjllomgiaaGreatDoorProg
import Derived.WalkKit
set_option linter.all false
set_option maxRecDepth 100000
section
open Go Go.AL Go.Proofs Go.Shelf Go.Pd
namespace Go.AL.Seat
variable [Tabs]
def nn:Nat->Bool:=fun _=>false
def cf(k:Nat->Bool)(l:Nat->List (Option Nat))(p r m:Nat->Bool)(s:Nat->List AV->List (Nat×SObj)->Option Ans):Cfg:=⟨tbl,s,k,l,p,r,m⟩
def a0:An:=⟨[],[],[]⟩
theorem g1(k:Nat->Bool)(l:Nat->List (Option Nat))(p r m:Nat->Bool){s:Nat->List AV->List (Nat×SObj)->Option Ans}(hS:bJ Tryz.prog s)(a:An){f:Nat}{fn:Func}(hf:Tryz.prog.funcs[f]?=some fn)
 {args:List AV}{S:List (Nat×SObj)}{A:Ans}{Q:Prop}(q:Q)(h:fwp (cf k l p r m s) a fn args S A=Q:=by kernel_rfl):ak Tryz.prog f args S A:=IH (C:=cf k l p r m s) mixed ug hS hf q h
theorem g0{s:Nat->List AV->List (Nat×SObj)->Option Ans}(hS:bJ Tryz.prog s)(a:An){f:Nat}{fn:Func}(hf:Tryz.prog.funcs[f]?=some fn)
 {args:List AV}{S:List (Nat×SObj)}{A:Ans}{Q:Prop}(q:Q)(h:fwp (cf nn (fun _=>[]) nn nn nn s) a fn args S A=Q:=by kernel_rfl):ak Tryz.prog f args S A:=IH (C:=cf nn (fun _=>[]) nn nn nn s) mixed ug hS hf q h
theorem sc{f:Nat}{g:Pat}{l:List (Nat×Pat)}(h:ah Tryz.prog f g)(hl:bJ Tryz.prog (gF l)):bJ Tryz.prog (gF ((f,g)::l)):=tx h hl
theorem sn:bJ Tryz.prog (gF []):=wg
theorem ee{f:Nat}{fn:Func}(h:Tryz.prog.funcs[f]?=some fn)(e:(fn.body.isNone || (fn.name == "runtime.NumGoroutine"))=false:=by kernel_rfl):Enters Tryz.prog f:=Enters.mk' h e
variable [SeatLaid]
theorem qc:ah Tryz.prog 84 (p1 (.int .u8) fun c=>.ret (.bool (dI c))):=
 bA (ee Tryz.func84) fun c _ _=>g0 sn a0 Tryz.func84 (JK c)
theorem qd:ah Tryz.prog 92 (p1 (.int .u8) fun c=>.ret (.bool (dR c))):=
 bA (ee Tryz.func92) fun c _ _=>g0 sn a0 Tryz.func92 (JL c)
theorem Hp:ah Tryz.prog 159 (p1 (.int .u8) fun c=>.ret (.bool (iI c))):=
 bA (ee Tryz.func159) fun c _ _=>g0 sn a0 Tryz.func159 (JM c)
theorem Bj:ah Tryz.prog 135 (p1 (.int .u8) fun c=>.ret (.bool (iB c))):=
 bA (ee Tryz.func135) fun c _ _=>g0 (sc qc (sc qd (sc Hp sn))) a0 Tryz.func135 (LL c)
theorem DY:ah Tryz.prog 83 (pf .str 84 fun s=>.ret (.bool (dJ dI s))):=
 n9 (ee Tryz.func83) fun s hs _=>g0 (sc qc (sc qd (sc Bj sn))) ⟨[(4,fun S0=>⟨Nat,fun k=>k<=s.length/\dJ dI s=(s.drop k).all fun c=>iB (bI c),fun k=>[(22,.int .i64 k)],fun _=>[],fun k=>s.length-k⟩)],[],[]⟩ Tryz.func83 (GR s hs)
theorem DZ:ah Tryz.prog 83 (pf .str 92 fun s=>.ret (.bool (dJ dR s))):=
 n9 (ee Tryz.func83) fun s hs _=>g0 (sc qc (sc qd (sc Bj sn))) ⟨[(4,fun S0=>⟨Nat,fun k=>k<=s.length/\dJ dR s=(s.drop k).all fun c=>iB (bI c),fun k=>[(22,.int .i64 k)],fun _=>[],fun k=>s.length-k⟩)],[],[]⟩ Tryz.func83 (GS s hs)
theorem Ke:ah Tryz.prog 85 (p1 .str fun s=>.ret (.bool (zP s))):=
 bA (ee Tryz.func85) fun s _ _=>g0 sn a0 Tryz.func85 (LM s)
theorem jm:ah Tryz.prog 47 (p1 .str fun s=>.ret (.bool (aX s))):=
 bA (ee Tryz.func47) fun s _ _=>g0 (sc DY (sc Ke sn)) a0 Tryz.func47 (LN s)
theorem kj:ah Tryz.prog 52 (p1 .str fun s=>.ret (.bool (eG s))):=
 bA (ee Tryz.func52) fun s _ _=>g0 (sc DZ sn) a0 Tryz.func52 (JN s)
theorem uv:ah Tryz.prog 214 (p2 (.lst .str) .str fun a v=>.ret (.int .i64 (ct a v 0))):=
 ca (ee Tryz.func214) fun a v ha _ _=>g0 sn ⟨[(2,fun S0=>⟨Nat,fun k=>k<=a.length/\ct a v 0=ct (a.drop k) v k,fun k=>[(8,.int .i64 k)],fun _=>[],fun k=>a.length-k⟩)],[],[]⟩ Tryz.func214 (GU a v ha)
theorem Hq:ah Tryz.prog 120 (p1 .str fun s=>.ret (.bool (nM s))):=
 bA (ee Tryz.func120) fun s _ _=>g0 sn a0 Tryz.func120 (JO s)
theorem nY:ah Tryz.prog 94 (p1 (.lst .str) fun a=>⟨none,none,.fn 146 [.ptr 1 0],[(1,.box (.lst .str a none))]⟩):=
 bA (ee Tryz.func94) fun a _ _=>g0 sn a0 Tryz.func94 (GV a)
theorem Hr:ah Tryz.prog 119 (p1 (.st .shape) fun s=>⟨some (s.parts.length *16<=140737488355328),none,.bool (eH s),[]⟩):=
 bA (ee Tryz.func119) fun s hs ho=>g0 (sc jm (sc nY (sc (nO) (sc (lR) sn)))) ⟨[(4,fun S0=>⟨Nat,fun k=>k<=s.names.length/\s.names.length=s.parts.length/\eH s=(((s.names.drop k).all aX)&&decide s.names.Nodup),fun k=>[(16,.int .i64 k)],fun _=>[],fun k=>s.names.length-k⟩)],[],[]⟩ Tryz.func119 (JP s hs (ho _ rfl))
theorem Kf:ah Tryz.prog 66 (p1 (.st .shape) fun s=>⟨some (s.parts.length *16<=140737488355328),none,.bool (aV s),[]⟩):=
 bA (ee Tryz.func66) fun s hs ho=>g0 (sc Hr (sc kj (sc jm (sc Hq sn)))) a0 Tryz.func66 (LO s hs (ho _ rfl))
theorem uw:Enters Tryz.prog 30:=ee Tryz.func30
theorem vt(n:Nat)(s:AL.Shape)(hs:Wf (.st .shape) s)(hn:sz s<=n+1)(hb:n<=1000000)(hA:ah Tryz.prog 30 (pf (.st .shape) 66 fun s=>⟨some (sz s<=n),none,.bool (allS aV s),[]⟩)):ak Tryz.prog 30 [.st .shape s,.fn 66 []] [] (.ret (.bool (allS aV s))):=
 g0 (sc Kf (sc (hA) sn)) ⟨[(4,fun S0=>⟨Nat,fun k=>k<=s.parts.length/\allS aV s=allL aV (s.parts.drop k),fun k=>[(14,.int .i64 k)],fun _=>[],fun k=>s.parts.length-k⟩)],[],[]⟩ Tryz.func30 (DG n s hs hn hb)
theorem Bk:∀n:Nat,n<=1000000->ah Tryz.prog 30 (pf (.st .shape) 66 fun s=>⟨some (sz s<=n),none,.bool (allS aV s),[]⟩):=by
 intro n
 induction n with
 |zero=>exact fun _=>n9 uw fun a hs ho=>absurd (ho _ rfl) (by have:=fH a;omega)
 |succ n ih=>exact fun hb=>n9 uw fun a hs ho=>vt n a hs (ho _ rfl) (by omega) (ih (by omega))
theorem wM:Enters Tryz.prog 150:=ee Tryz.func150
theorem yu(n:Nat)(s:AL.Shape)(hs:Wf (.st .shape) s)(hn:sz s<=n+1)(ho:allS fo s=true)(hb:n<=1000000)(hA:ah Tryz.prog 150 (p1 (.st .shape) fun s=>⟨some (sz s<=n/\allS fo s=true),none,.st .shape (sortedS s),[]⟩)):ak Tryz.prog 150 [.st .shape s] [] (.ret (.st .shape (sortedS s))):=
 g0 (sc (yp) (sc (hA) sn)) ⟨[(4,fun S0=>⟨Nat,fun k=>k<=s.parts.length,fun k=>[(21,.int .i64 k)],fun k=>[(18,.box (.row (.int .i64) (dt k++List.replicate (s.parts.length-k) 0)))],fun k=>s.parts.length-k⟩),(11,fun S0=>⟨Nat,fun k=>k<=s.parts.length,fun k=>[(38,.int .i64 k)],fun k=>[(3,.box (.agg [.int .i64 s.kind,.str s.pkg,.str s.name,.lst .str (if s.names=[]then[]else(bM s|>.take k).map (dr s.names)) (some 701),.lst (.st .shape) ((bM s|>.take k).map fun i=>(sortedL s.parts).getD i.toNat xU) (some 702)])),(18,.box (.row (.int .i64) (bM s))),(701,.tail .str (if s.names=[]then[]else(bM s|>.take k).map (dr s.names)).length),(702,.tail (.st .shape) k)],fun k=>s.parts.length-k⟩)],[],[]⟩ Tryz.func150 (GW n s hs hn ho hb)
theorem E0:∀n:Nat,n<=1000000->ah Tryz.prog 150 (p1 (.st .shape) fun s=>⟨some (sz s<=n/\allS fo s=true),none,.st .shape (sortedS s),[]⟩):=by
 intro n
 induction n with
 |zero=>exact fun _=>bA wM fun a hs ho=>absurd (ho _ rfl).1 (by have:=fH a;omega)
 |succ n ih=>exact fun hb=>bA wM fun a hs ho=>yu n a hs (ho _ rfl).1 (ho _ rfl).2 (by omega) (ih (by omega))
theorem Kg:ah Tryz.prog 118 (xV 191):=
 D0 (ee Tryz.func118) fun c hc=>g0 sn a0 Tryz.func118 (LP c hc)
theorem Fq:Enters Tryz.prog 117:=ee Tryz.func117
theorem E1(n:Nat)(s:AL.Shape)(l c:Int)(hs:Wf (.st .shape) s)(hn:sz s<=n+1)(hc:0<=c/\c<=400/\1<=l/\l<=c+1)(hA:ah Tryz.prog 117 (rM 191 118 n)):ak Tryz.prog 117 [.st .shape s,.int .i64 l,.fn 118 [.ptr 900 0]] [(900,.box (.int .i64 c))] (IM 191 s l c (sz s<=n+1)):=
 g0 (sc Kg (sc (hA) sn)) ⟨[(4,fun S0=>⟨Nat×Int,fun x=>x.1<=s.parts.length/\c+1+(szL (s.parts.take x.1):Int)<=400/\deepL (s.parts.drop x.1) (l+1) x.2=deepS s l,fun x=>[(7,.int .i64 x.2),(16,.int .i64 x.1)],fun x=>[(900,.box (.int .i64 (c+1+(szL (s.parts.take x.1):Int))))],fun x=>s.parts.length-x.1⟩)],[],[]⟩ Tryz.func117 (LQ n s l c hs hn hc)
theorem Kh:∀n:Nat,ah Tryz.prog 117 (rM 191 118 n):=by
 intro n
 induction n with
 |zero=>exact tE Fq fun s l c hs hn hc=>absurd hn (by have:=fH s;omega)
 |succ n ih=>exact tE Fq fun s l c hs hn hc=>E1 n s l c hs hn hc ih
theorem Bl(s:AL.Shape)(hs:Wf (.st .shape) s) :ak Tryz.prog 65 [.st .shape s] [] (.ret (.tup [.int .i64 (if sz s<=400 then(sz s:Int)else 401),.int .i64 (if sz s<=400 then deepS s 1 else 0),.bool (decide (sz s<=400))])):=
 fwpR_sound (C:=⟨tbl,_,fun _=>false,fun _=>[],fun _=>false,fun _=>false,fun _=>false⟩) (ann:=⟨[],[],[]⟩) (annC:=⟨[],[],[]⟩) mixed ug (tx (Kh (sz s)) (wg)) Tryz.func65 Tryz.func116 (enters_of Tryz.func116 (by kernel_rfl) rfl) (@Eq.mpr _ _ (by kernel_rfl) (JQ s hs))
theorem Hs:ah Tryz.prog 65 (p1 (.st .shape) fun s=>.ret (.tup [.int .i64 (if sz s<=400 then(sz s:Int)else 401),.int .i64 (if sz s<=400 then deepS s 1 else 0),.bool (decide (sz s<=400))])):=
 bA (ee Tryz.func65) fun s hs _=>Bl s hs
theorem gW:ah Tryz.prog 29 (p1 (.st .shape) fun s=>.ret (.int .i64 (aG s))):=
 bA (ee Tryz.func29) fun s _ _=>g0 (sc (Hs) (sc (Bk 400 (by decide)) sn)) a0 Tryz.func29 (JR s)
theorem mc:ah Tryz.prog 103 (p1 (.st .shape) fun s=>.ret (.st .shape (bO s))):=
 bA (ee Tryz.func103) fun s _ _=>g0 (sc gW (sc (E0 400 (by decide)) sn)) a0 Tryz.func103 (LR s)
theorem Fs:Enters Tryz.prog 19:=ee Tryz.func19
theorem E2(n:Nat)(s:AL.Shape)(m:Int)(hs:Wf (.st .shape) s)(ho:sz s<=n+1/\0<=m/\m<=1000000)(hA:ah Tryz.prog 19 (p2 (.st .shape) (.int .i64) fun s m=>⟨some (sz s<=n/\0<=m/\m<=1000000),none,.int .i64 (sizeF s m),[]⟩)):ak Tryz.prog 19 [.st .shape s,.int .i64 m] [] (.ret (.int .i64 (sizeF s m))):=
 g0 (sc (hA) sn) ⟨[(3,fun S0=>⟨Nat×Int,fun x=>x.1<=s.parts.length/\1<=x.2/\x.2<=m+1/\sizeL (s.parts.drop x.1) x.2 m=sizeF s m,fun x=>[(5,.int .i64 x.2),(6,.int .i64 x.1)],fun _=>[],fun x=>s.parts.length-x.1⟩)],[],[]⟩ Tryz.func19 (LS n s m hs ho)
theorem Bn:∀n:Nat,ah Tryz.prog 19 (p2 (.st .shape) (.int .i64) fun s m=>⟨some (sz s<=n/\0<=m/\m<=1000000),none,.int .i64 (sizeF s m),[]⟩):=by
 intro n
 induction n with
 |zero=>exact ca Fs fun a m _ _ ho=>absurd (ho _ rfl).1 (by have:=fH a;omega)
 |succ n ih=>exact ca Fs fun a m ha _ ho=>E2 n a m ha (ho _ rfl) ih
theorem wN:Enters Tryz.prog 28:=ee Tryz.func28
theorem yw(n:Nat)(a b:Shape)(ha:Wf (.st .shape) a)(hb:Wf (.st .shape) b)(hn:sz a<=n+1)(hA:ah Tryz.prog 28 (p2 (.st .shape) (.st .shape) fun a b=>⟨some (sz a<=n),none,.bool (eqS a b),[]⟩)):ak Tryz.prog 28 [.st .shape a,.st .shape b] [] (.ret (.bool (eqS a b))):=
 g0 (sc (hA) sn) ⟨[(4,fun S0=>⟨Nat,fun k=>k<=a.names.length/\a.names.length=b.names.length/\a.parts.length=b.parts.length/\eqS a b=(decide (a.names.drop k=b.names.drop k)&&eqL a.parts b.parts),fun k=>[(5,.int .i64 k)],fun _=>[],fun k=>a.names.length-k⟩),(9,fun S0=>⟨Nat,fun k=>k<=a.parts.length/\a.parts.length=b.parts.length/\eqS a b=eqL (a.parts.drop k) (b.parts.drop k),fun k=>[(6,.int .i64 k)],fun _=>[],fun k=>a.parts.length-k⟩)],[],[]⟩ Tryz.func28 (GX n a b ha hb hn)
theorem E3:∀n:Nat,ah Tryz.prog 28 (p2 (.st .shape) (.st .shape) fun a b=>⟨some (sz a<=n),none,.bool (eqS a b),[]⟩):=by
 intro n
 induction n with
 |zero=>exact ca wN fun a b _ _ ho=>absurd (ho _ rfl) (by have:=fH a;omega)
 |succ n ih=>exact ca wN fun a b ha hb ho=>yw n a b ha hb (ho _ rfl) ih
theorem wO:Enters Tryz.prog 142:=ee Tryz.func142
theorem yy(n:Nat)(t:Trm)(m:Int)(hs:Wf (.st .term) t)(hz:szT t<=n+1)(h0:0<=m)(h1:m<=1000000)(hA:ah Tryz.prog 142 (p2 (.st .term) (.int .i64) fun t m=>⟨some (szT t<=n/\0<=m/\m<=1000000),none,.tup [.int .i64 (countT t m).1,.int .i64 (countT t m).2],[]⟩)):ak Tryz.prog 142 [.st .term t,.int .i64 m] [] (⟨some (szT t<=n+1/\0<=m/\m<=1000000),none,.tup [.int .i64 (countT t m).1,.int .i64 (countT t m).2],[]⟩):=
 g0 (sc (hA) sn) ⟨[(3,fun S0=>⟨Nat×Int×Int,fun y=>y.1<=t.parts.length/\1<=y.2.1/\y.2.1<=m+1/\0<=y.2.2/\y.2.2+1<=y.2.1/\countL (t.parts.drop y.1) m y.2.1 y.2.2=countL t.parts m 1 0,fun y=>[(6,.int .i64 y.2.1),(7,.int .i64 y.2.2),(15,.int .i64 y.1)],fun _=>[],fun y=>t.parts.length-y.1⟩)],[],[]⟩ Tryz.func142 (GY n t m hs hz h0 h1)
theorem uz:∀n:Nat,ah Tryz.prog 142 (p2 (.st .term) (.int .i64) fun t m=>⟨some (szT t<=n/\0<=m/\m<=1000000),none,.tup [.int .i64 (countT t m).1,.int .i64 (countT t m).2],[]⟩)
 |0=>ca wO fun t m hs _ ho=>absurd (ho _ rfl).1 (by have:=hX t;omega)
 |n+1=>ca wO fun t m hs _ ho=>yy n t m hs (ho _ rfl).1 (ho _ rfl).2.1 (ho _ rfl).2.2 (uz n)
theorem Bp:ah Tryz.prog 276 (pcl .str 47 fun x=>⟨none,none,.bool (!aX x),[]⟩):=
 xX (ee Tryz.func276) fun x _ ho=>g0 (sc jm sn) a0 Tryz.func276 (DH x)
theorem Bq:ah Tryz.prog 302 (pfc (.lst .str) 276 47 fun l=>⟨none,none,.int .i64 (ba aX l 0),[]⟩):=
 lQ (ee Tryz.func302) fun l hl ho=>g0 (sc Bp sn) ⟨[(2,fun S0=>⟨Nat,fun k=>k<=l.length/\ba aX (l.drop k) k=ba aX l 0,fun k=>[(8,.int .i64 k)],fun _=>[],fun k=>l.length-k⟩)],[],[]⟩ Tryz.func302 (DI l hl)
theorem Br:ah Tryz.prog 275 (pfc (.lst .str) 276 47 fun l=>⟨none,none,.bool (!l.all aX),[]⟩):=
 lQ (ee Tryz.func275) fun l _ ho=>g0 (sc Bq sn) a0 Tryz.func275 (DJ l)
theorem wP:ah Tryz.prog 238 (pf (.lst .str) 47 fun l=>⟨none,none,.bool (l.all aX),[]⟩):=
 n9 (ee Tryz.func238) fun l _ ho=>g0 (sc Br sn) a0 Tryz.func238 (JS l)
theorem Ht:ah Tryz.prog 237 (p1 (.lst .str) fun l=>⟨some (l.length *16<=140737488355328),none,.bool (l.all aX&&decide l.Nodup),[]⟩):=
 bA (ee Tryz.func237) fun l _ ho=>g0 (sc nY (sc (nO) (sc wP (sc (lR) sn)))) a0 Tryz.func237 (JT l (ho _ rfl))
theorem E4:Enters Tryz.prog 272:=ee Tryz.func272
theorem vu(n:Nat)(x:Shape) (ho:sz x<=n)(hA:ah Tryz.prog 273 (p1 (.st .shape) fun s=>⟨some (sz s<=n),none,.bool (allS aP s),[]⟩)):ak Tryz.prog 272 [.st .shape x,.ptr 900 0] [(900,.box (.fn 273 []))] (⟨some (sz x<=n),none,.bool (!(allS aP) x),[]⟩):=
 g0 (sc (hA) sn) a0 Tryz.func272 (DK n x ho)
theorem Bt(n:Nat)(hA:ah Tryz.prog 273 (p1 (.st .shape) fun s=>⟨some (sz s<=n),none,.bool (allS aP s),[]⟩)):ah Tryz.prog 272 (pcl (.st .shape) 273 fun x=>⟨some (sz x<=n),none,.bool (!(allS aP) x),[]⟩):=
 xX E4 fun x _ ho=>vu n x (ho _ rfl) hA
theorem E5:Enters Tryz.prog 187:=ee Tryz.func187
theorem vw(n:Nat)(l:List AL.Shape) (hl:Wf (.lst (.st .shape)) l)(ho:∀x∈l,sz x<=n)(hA:ah Tryz.prog 273 (p1 (.st .shape) fun s=>⟨some (sz s<=n),none,.bool (allS aP s),[]⟩)):ak Tryz.prog 187 [.lst (.st .shape) l none,.fn 272 [.ptr 900 0]] [(900,.box (.fn 273 []))] (⟨some (∀x∈l,sz x<=n),none,.int .i64 (ba (allS aP) l 0),[]⟩):=
 g0 (sc ((Bt n hA)) sn) ⟨[(2,fun S0=>⟨Nat,fun k=>k<=l.length/\ba (allS aP) (l.drop k) k=ba (allS aP) l 0,fun k=>[(8,.int .i64 k)],fun _=>[],fun k=>l.length-k⟩)],[],[]⟩ Tryz.func187 (DL n l hl ho)
theorem Bu(n:Nat)(hA:ah Tryz.prog 273 (p1 (.st .shape) fun s=>⟨some (sz s<=n),none,.bool (allS aP s),[]⟩)):ah Tryz.prog 187 (pfc (.lst (.st .shape)) 272 273 fun l=>⟨some (∀x∈l,sz x<=n),none,.int .i64 (ba (allS aP) l 0),[]⟩):=
 lQ E5 fun l hl ho=>vw n l hl (ho _ rfl) hA
theorem E6:Enters Tryz.prog 140:=ee Tryz.func140
theorem vz(n:Nat)(l:List AL.Shape) (ho:∀x∈l,sz x<=n)(hA:ah Tryz.prog 273 (p1 (.st .shape) fun s=>⟨some (sz s<=n),none,.bool (allS aP s),[]⟩)):ak Tryz.prog 140 [.lst (.st .shape) l none,.fn 272 [.ptr 900 0]] [(900,.box (.fn 273 []))] (⟨some (∀x∈l,sz x<=n),none,.bool (!l.all (allS aP)),[]⟩):=
 g0 (sc ((Bu n hA)) sn) a0 Tryz.func140 (DM n l ho)
theorem Bv(n:Nat)(hA:ah Tryz.prog 273 (p1 (.st .shape) fun s=>⟨some (sz s<=n),none,.bool (allS aP s),[]⟩)):ah Tryz.prog 140 (pfc (.lst (.st .shape)) 272 273 fun l=>⟨some (∀x∈l,sz x<=n),none,.bool (!l.all (allS aP)),[]⟩):=
 lQ E6 fun l _ ho=>vz n l (ho _ rfl) hA
theorem Ki:Enters Tryz.prog 234:=ee Tryz.func234
theorem Bw(n:Nat)(l:List AL.Shape) (ho:∀x∈l,sz x<=n)(hA:ah Tryz.prog 273 (p1 (.st .shape) fun s=>⟨some (sz s<=n),none,.bool (allS aP s),[]⟩)):ak Tryz.prog 234 [.lst (.st .shape) l none,.fn 273 []] [] (⟨some (∀x∈l,sz x<=n),none,.bool (l.all (allS aP)),[]⟩):=
 g0 (sc ((Bv n hA)) sn) a0 Tryz.func234 (JU n l ho)
theorem Hu(n:Nat)(hA:ah Tryz.prog 273 (p1 (.st .shape) fun s=>⟨some (sz s<=n),none,.bool (allS aP s),[]⟩)):ah Tryz.prog 234 (pf (.lst (.st .shape)) 273 fun l=>⟨some (∀x∈l,sz x<=n),none,.bool (l.all (allS aP)),[]⟩):=
 n9 Ki fun l _ ho=>Bw n l (ho _ rfl) hA
theorem Ft:Enters Tryz.prog 273:=ee Tryz.func273
theorem E7(n:Nat)(s:AL.Shape)(ho:sz s<=n+1)(hE:ah Tryz.prog 234 (pf (.lst (.st .shape)) 273 fun l=>⟨some (∀x∈l,sz x<=n),none,.bool (l.all (allS aP)),[]⟩)):ak Tryz.prog 273 [.st .shape s] [] (⟨some (sz s<=n+1),none,.bool (allS aP s),[]⟩):=
 g0 (sc (hE) sn) a0 Tryz.func273 (LU n s ho)
theorem Bx:∀n:Nat,ah Tryz.prog 273 (p1 (.st .shape) fun s=>⟨some (sz s<=n),none,.bool (allS aP s),[]⟩)
 |0=>bA Ft fun s _ ho=>absurd (ho _ rfl) (by have:=fH s;omega)
 |n+1=>bA Ft fun s _ ho=>E7 n s (ho _ rfl) (Hu n (Bx n))
theorem E8:ah Tryz.prog 235 (p1 (.st .shape) fun s=>.ret (.bool (decide (aG s=0)&&allS aP s))):=
 bA (ee Tryz.func235) fun s _ _=>g0 (sc gW (sc (Bx 400) sn)) a0 Tryz.func235 (GZ s)
theorem M8:ah Tryz.prog 233 (p1 (.st .term) fun t=>.ret (.agg [.int .i64 (t.names.length:Int),.int .i64 (t.vars.length:Int),.int .i64 (t.shapes.length:Int),.int .i64 (t.parts.length:Int)])):=
 bA (ee Tryz.func233) fun t _ _=>g0 sn a0 Tryz.func233 (Nf t)
theorem Hv:ah Tryz.prog 236 (p1 .str fun s=>.ret (.bool (tO s))):=
 bA (ee Tryz.func236) fun s hs _=>g0 (sc (Gg) sn) ⟨[(2,fun S0=>⟨Nat,fun k=>k<=s.length/\(s.all jj)=(s.drop k).all jj,fun k=>[(8,.int .i64 k)],fun _=>[],fun k=>s.length-k⟩)],[],[]⟩ Tryz.func236 (JV s hs)
theorem yz:ah Tryz.prog 272 (pcl (.st .shape) 235 fun x=>⟨none,none,.bool (!cN x),[]⟩):=
 xX (ee Tryz.func272) fun x _ ho=>g0 (sc E8 sn) a0 Tryz.func272 (Ba x)
theorem yA:ah Tryz.prog 187 (pfc (.lst (.st .shape)) 272 235 fun l=>⟨none,none,.int .i64 (ba cN l 0),[]⟩):=
 lQ (ee Tryz.func187) fun l hl ho=>g0 (sc yz sn) ⟨[(2,fun S0=>⟨Nat,fun k=>k<=l.length/\ba cN (l.drop k) k=ba cN l 0,fun k=>[(8,.int .i64 k)],fun _=>[],fun k=>l.length-k⟩)],[],[]⟩ Tryz.func187 (Bb l hl)
theorem yB:ah Tryz.prog 140 (pfc (.lst (.st .shape)) 272 235 fun l=>⟨none,none,.bool (!l.all cN),[]⟩):=
 lQ (ee Tryz.func140) fun l _ ho=>g0 (sc yA sn) a0 Tryz.func140 (Bc l)
theorem E9:ah Tryz.prog 234 (pf (.lst (.st .shape)) 235 fun l=>⟨none,none,.bool (l.all cN),[]⟩):=
 n9 (ee Tryz.func234) fun l _ ho=>g0 (sc yB sn) a0 Tryz.func234 (H0 l)
theorem Hw:ah Tryz.prog 188 (p1 (.st .term) fun t=>⟨some (t.names.length<=8796093022208),none,.bool (ao t),[]⟩):=
 bA (ee Tryz.func188) fun t ht ho=>g0 (sc M8 (sc E9 (sc Hv (sc jm (sc Ht (sc wP (sc kj sn))))))) ⟨[],[],[(2,fun S0=>⟨[(34,.bool (!oR t))],[]⟩)]⟩ Tryz.func188 (JW t ht (ho _ rfl))
theorem By:Enters Tryz.prog 240:=ee Tryz.func240
theorem uA(n:Nat)(x:Trm) (ho:szT x<=n/\cd x=true)(hA:ah Tryz.prog 143 (p1 (.st .term) fun t=>⟨some (szT t<=n/\cd t=true),none,.bool (allT ao t),[]⟩)):ak Tryz.prog 240 [.st .term x,.ptr 900 0] [(900,.box (.fn 143 []))] (⟨some (szT x<=n/\cd x=true),none,.bool (!(allT ao) x),[]⟩):=
 g0 (sc (hA) sn) a0 Tryz.func240 (Bd n x ho)
theorem yC(n:Nat)(hA:ah Tryz.prog 143 (p1 (.st .term) fun t=>⟨some (szT t<=n/\cd t=true),none,.bool (allT ao t),[]⟩)):ah Tryz.prog 240 (pcl (.st .term) 143 fun x=>⟨some (szT x<=n/\cd x=true),none,.bool (!(allT ao) x),[]⟩):=
 xX By fun x _ ho=>uA n x (ho _ rfl) hA
theorem Bz:Enters Tryz.prog 277:=ee Tryz.func277
theorem uB(n:Nat)(l:List Trm) (hl:Wf (.lst (.st .term)) l)(ho:∀x∈l,szT x<=n/\cd x=true)(hA:ah Tryz.prog 143 (p1 (.st .term) fun t=>⟨some (szT t<=n/\cd t=true),none,.bool (allT ao t),[]⟩)):ak Tryz.prog 277 [.lst (.st .term) l none,.fn 240 [.ptr 900 0]] [(900,.box (.fn 143 []))] (⟨some (∀x∈l,szT x<=n/\cd x=true),none,.int .i64 (ba (allT ao) l 0),[]⟩):=
 g0 (sc ((yC n hA)) sn) ⟨[(2,fun S0=>⟨Nat,fun k=>k<=l.length/\ba (allT ao) (l.drop k) k=ba (allT ao) l 0,fun k=>[(8,.int .i64 k)],fun _=>[],fun k=>l.length-k⟩)],[],[]⟩ Tryz.func277 (Be n l hl ho)
theorem yD(n:Nat)(hA:ah Tryz.prog 143 (p1 (.st .term) fun t=>⟨some (szT t<=n/\cd t=true),none,.bool (allT ao t),[]⟩)):ah Tryz.prog 277 (pfc (.lst (.st .term)) 240 143 fun l=>⟨some (∀x∈l,szT x<=n/\cd x=true),none,.int .i64 (ba (allT ao) l 0),[]⟩):=
 lQ Bz fun l hl ho=>uB n l hl (ho _ rfl) hA
theorem BA:Enters Tryz.prog 239:=ee Tryz.func239
theorem uC(n:Nat)(l:List Trm) (ho:∀x∈l,szT x<=n/\cd x=true)(hA:ah Tryz.prog 143 (p1 (.st .term) fun t=>⟨some (szT t<=n/\cd t=true),none,.bool (allT ao t),[]⟩)):ak Tryz.prog 239 [.lst (.st .term) l none,.fn 240 [.ptr 900 0]] [(900,.box (.fn 143 []))] (⟨some (∀x∈l,szT x<=n/\cd x=true),none,.bool (!l.all (allT ao)),[]⟩):=
 g0 (sc ((yD n hA)) sn) a0 Tryz.func239 (Bf n l ho)
theorem yE(n:Nat)(hA:ah Tryz.prog 143 (p1 (.st .term) fun t=>⟨some (szT t<=n/\cd t=true),none,.bool (allT ao t),[]⟩)):ah Tryz.prog 239 (pfc (.lst (.st .term)) 240 143 fun l=>⟨some (∀x∈l,szT x<=n/\cd x=true),none,.bool (!l.all (allT ao)),[]⟩):=
 lQ BA fun l _ ho=>uC n l (ho _ rfl) hA
theorem Hx:Enters Tryz.prog 189:=ee Tryz.func189
theorem yF(n:Nat)(l:List Trm) (ho:∀x∈l,szT x<=n/\cd x=true)(hA:ah Tryz.prog 143 (p1 (.st .term) fun t=>⟨some (szT t<=n/\cd t=true),none,.bool (allT ao t),[]⟩)):ak Tryz.prog 189 [.lst (.st .term) l none,.fn 143 []] [] (⟨some (∀x∈l,szT x<=n/\cd x=true),none,.bool (l.all (allT ao)),[]⟩):=
 g0 (sc ((yE n hA)) sn) a0 Tryz.func189 (H2 n l ho)
theorem Ea(n:Nat)(hA:ah Tryz.prog 143 (p1 (.st .term) fun t=>⟨some (szT t<=n/\cd t=true),none,.bool (allT ao t),[]⟩)):ah Tryz.prog 189 (pf (.lst (.st .term)) 143 fun l=>⟨some (∀x∈l,szT x<=n/\cd x=true),none,.bool (l.all (allT ao)),[]⟩):=
 n9 Hx fun l _ ho=>yF n l (ho _ rfl) hA
theorem wQ:Enters Tryz.prog 143:=ee Tryz.func143
theorem yG(n:Nat)(t:Trm)(ho:szT t<=n+1/\cd t=true)(hE:ah Tryz.prog 189 (pf (.lst (.st .term)) 143 fun l=>⟨some (∀x∈l,szT x<=n/\cd x=true),none,.bool (l.all (allT ao)),[]⟩)):ak Tryz.prog 143 [.st .term t] [] (⟨some (szT t<=n+1/\cd t=true),none,.bool (allT ao t),[]⟩):=
 g0 (sc Hw (sc (hE) sn)) a0 Tryz.func143 (H3 n t ho)
theorem uD:∀n:Nat,ah Tryz.prog 143 (p1 (.st .term) fun t=>⟨some (szT t<=n/\cd t=true),none,.bool (allT ao t),[]⟩)
 |0=>bA wQ fun t _ ho=>absurd (ho _ rfl).1 (by have:=hX t;omega)
 |n+1=>bA wQ fun t _ ho=>yG n t (ho _ rfl) (Ea n (uD n))
theorem yH(x:Trm)(ho:cd x=true) :ak Tryz.prog 91 [.st .term x] [] (⟨some (cd x=true),none,.int .i64 (du x),[]⟩):=
 g0 (sc (uz (szT x)) (sc (uD (szT x)) sn)) a0 Tryz.func91 (H4 x ho)
theorem uE:ah Tryz.prog 91 (p1 (.st .term) fun t=>⟨some (cd t=true),none,.int .i64 (du t),[]⟩):=
 bA (ee Tryz.func91) fun t _ ho=>yH t (ho _ rfl)
theorem BB:Enters Tryz.prog 18:=ee Tryz.func18
theorem BC(n:Nat)(s:Trm)(m:Int)(hs:Wf (.st .term) s)(ho:szT s<=n+1/\0<=m/\m<=1000000)(hA:ah Tryz.prog 18 (p2 (.st .term) (.int .i64) fun s m=>⟨some (szT s<=n/\0<=m/\m<=1000000),none,.int .i64 (fe s m),[]⟩)):ak Tryz.prog 18 [.st .term s,.int .i64 m] [] (.ret (.int .i64 (fe s m))):=
 g0 (sc (hA) sn) ⟨[(3,fun S0=>⟨Nat×Int,fun x=>x.1<=s.parts.length/\1<=x.2/\x.2<=m+1/\sizeTL (s.parts.drop x.1) x.2 m=fe s m,fun x=>[(5,.int .i64 x.2),(6,.int .i64 x.1)],fun _=>[],fun x=>s.parts.length-x.1⟩)],[],[]⟩ Tryz.func18 (JX n s m hs ho)
theorem Hy:∀n:Nat,ah Tryz.prog 18 (p2 (.st .term) (.int .i64) fun s m=>⟨some (szT s<=n/\0<=m/\m<=1000000),none,.int .i64 (fe s m),[]⟩):=by
 intro n
 induction n with
 |zero=>exact ca BB fun a m _ _ ho=>absurd (ho _ rfl).1 (by have:=hX a;omega)
 |succ n ih=>exact ca BB fun a m ha _ ho=>BC n a m ha (ho _ rfl) ih
theorem qS:ah Tryz.prog 137 (p1 .str fun s=>.ret (.bool (cI s))):=
 bA (ee Tryz.func137) fun s _ _=>g0 (sc (Ad) sn) a0 Tryz.func137 (DN s)
theorem Hz:ah Tryz.prog 87 (p1 .str fun s=>.ret (.bool (gG s))):=
 bA (ee Tryz.func87) fun s hs _=>g0 (sc qS sn) ⟨[(4,fun S0=>⟨Nat,fun k=>k<=s.length/\(s.all fun c=>jo (bI c))=(s.drop k).all fun c=>jo (bI c),fun k=>[(22,.int .i64 k)],fun _=>[],fun k=>s.length-k⟩)],[],[]⟩ Tryz.func87 (JY s hs)
theorem uF:ah Tryz.prog 48 (p1 (.st .version) fun v=>.ret (.int .i64 (ed v))):=
 bA (ee Tryz.func48) fun v hv _=>g0 (sc (pT) (sc Hz sn)) ⟨[(2,fun S0=>⟨Nat,fun k=>k<=3/\([v.major,v.minor,v.patch].take k).all ri=true,fun k=>[(15,.int .i64 k)],fun _=>[],fun k=>3-k⟩),(11,fun S0=>⟨Nat,fun k=>k<=(splitB 46 v.pre).length/\((splitB 46 v.pre).take k).all gG=true,fun k=>[(37,.int .i64 k)],fun _=>[],fun k=>(splitB 46 v.pre).length-k⟩)],[],[]⟩ Tryz.func48 (H5 v hv)
theorem uG:ah Tryz.prog 104 (p1 (.lst (.st .bind)) fun l=>⟨some (l.length *120<=140737488355328),none,.lst (.st .bind) l (some 5),[(5,.tail (.st .bind) l.length)]⟩):=
 bA (ee Tryz.func104) fun l hl ho=>g0 sn a0 Tryz.func104 (H6 l hl (ho _ rfl))
theorem BD:ah Tryz.prog 195 (p2 (.st .env) (.lst (.st .bind)) fun e l=>⟨some (e.values.length<=1000000000/\l.length<=1000),none,.st .env (cb e l),[]⟩):=
 ca (ee Tryz.func195) fun e l he hl ho=>g0 (sc uG sn) a0 Tryz.func195 (LV e l he hl (ho _ rfl))
theorem Eb:ah Tryz.prog 315 (p3 (.st .shape) (.st .shape) .bool fun a b f=>.ret (.bool (decide (f=decide (a.kind=6))))):=
 EY (ee Tryz.func315) fun a b f _ _ _ _=>g0 sn a0 Tryz.func315 (H7 a b f)
theorem HA:ah Tryz.prog 305 (p0 ⟨none,none,.ptr 2 0,[(2,.box (.agg [.fn 315 []]))]⟩):=
 Jc (ee Tryz.func305) (g0 sn a0 Tryz.func305 (JZ))
theorem wR:ah Tryz.prog 316 (p2 (.st .shape) .str fun s m=>⟨some (aV s=true),none,.pt .shape (bT s m),[]⟩):=
 ca (ee Tryz.func316) fun s m hs _ ho=>g0 (sc uv sn) a0 Tryz.func316 (K0 s m hs (ho _ rfl))
theorem Ec:ah Tryz.prog 317 (De fun m s=>⟨some (aV s=true),none,.bool (bT s m).isNone,[]⟩):=
 Gq (ee Tryz.func317) fun m s ho=>g0 (sc wR sn) a0 Tryz.func317 (H8 m s (ho _ rfl))
theorem HB:ah Tryz.prog 304 (p2 (.st .shape) (.st .shape) fun a b=>.ret (.bool (decide (aG a=0)&&decide (aG b=0)))):=
 ca (ee Tryz.func304) fun a b _ _ _=>g0 (sc gW sn) a0 Tryz.func304 (K1 a b)
theorem Kj:ah Tryz.prog 302 (oV 317 fun l s=>⟨some (aV s=true),none,.int .i64 (ba (fun m=>(bT s m).isSome) l 0),[]⟩):=
 qG (ee Tryz.func302) fun l s hl ho=>g0 (sc Ec sn) ⟨[(2,fun S0=>⟨Nat,fun k=>k<=l.length/\ba (fun m=>(bT s m).isSome) (l.drop k) k=ba (fun m=>(bT s m).isSome) l 0,fun k=>[(8,.int .i64 k)],fun _=>[],fun k=>l.length-k⟩)],[],[]⟩ Tryz.func302 (LW l s hl (ho _ rfl))
theorem Kk:ah Tryz.prog 275 (oV 317 fun l s=>⟨some (aV s=true),none,.bool (!l.all (fun m=>(bT s m).isSome)),[]⟩):=
 qG (ee Tryz.func275) fun l s _ ho=>g0 (sc Kj sn) a0 Tryz.func275 (LX l s (ho _ rfl))
theorem BE:Enters Tryz.prog 306:=ee Tryz.func306
def NX(n:Nat):=ye 315 fun a b=>⟨some (sz a+sz b<=n/\allS aV a=true/\allS aV b=true),none,.bool (cE n a b),[]⟩
theorem BF(n:Nat)(a b:Shape)(ha:Wf (.st .shape) a)(hb:Wf (.st .shape) b)(hn:sz a+sz b<=n+1)(oa:allS aV a=true)(ob:allS aV b=true)(hA:ah Tryz.prog 306 (NX n)):ak Tryz.prog 306 [.ptr 900 0,.st .shape a,.st .shape b] [(900,.box (.agg [.fn 315 []]))] (⟨some (sz a+sz b<=n+1/\allS aV a=true/\allS aV b=true),none,.bool (cE (n+1) a b),[]⟩):=
 g0 (sc Eb (sc wR (sc Kk (sc (hA) sn)))) ⟨[(7,fun S0=>⟨Nat,fun k=>k<=a.names.length/\iO (cE n) (decide (a.kind=7)) b (a.names.drop k) (a.parts.drop k)=iO (cE n) (decide (a.kind=7)) b a.names a.parts,fun k=>[(54,.int .i64 k)],fun _=>[],fun k=>a.names.length-k⟩),(17,fun S0=>⟨Nat,fun k=>k<=a.parts.length/\cE (n+1) a b=nq (cE n) (decide (a.kind=8)) (a.parts.drop k) (b.parts.drop k),fun k=>[(117,.int .i64 k)],fun _=>[],fun k=>a.parts.length-k⟩)],[],[(5,fun S0=>⟨[(42,.bool (decide (a.kind=6)||decide (a.kind=7)))],[]⟩)]⟩ Tryz.func306 (K2 n a b ha hb hn oa ob)
theorem wS:∀n:Nat,ah Tryz.prog 306 (NX n)
 |0=>wu BE fun a b ha hb ho=>absurd (fH a) (by have:=(ho _ rfl).1;omega)
 |n+1=>wu BE fun a b ha hb ho=>BF n a b ha hb (ho _ rfl).1 (ho _ rfl).2.1 (ho _ rfl).2.2 (wS n)
theorem Kl:ah Tryz.prog 281 (p2 (.st .shape) (.st .shape) fun a b=>.ret (.bool (oS a b))):=
 ca (ee Tryz.func281) fun a b ha hb _=>g0 (sc HB (sc HA (sc (wS 800) sn))) a0 Tryz.func281 (LY a b ha hb)
theorem Ed(k:Nam)(v:Shape)  :ak Tryz.prog 149 [.ptr 900 0,.st .nm k,.st .shape v] [(900,.box (.agg [.nilm]))] (⟨none,none,.tup [],[(900,.box (.map 12)),(12,.map (.st .nm) (.st .shape) (bP ([]:List (Nam×Shape)) k v))]⟩):=
 g0 sn a0 Tryz.func149 (LZ k v)
theorem BG:ah Tryz.prog 149 (Df fun m k v=>match m with|none=>⟨none,none,.tup [],[(900,.box (.map 12)),(12,.map (.st .nm) (.st .shape) (bP ([]:List (Nam×Shape)) k v))]⟩|some m=>⟨none,none,.tup [],[(901,.map (.st .nm) (.st .shape) (bP m k v))]⟩):=
 Gr (ee Tryz.func149) (fun k v=>Ed k v) fun m k v=>g0 sn a0 Tryz.func149 (M0 m k v)
theorem Ee(k:Nam)  :ak Tryz.prog 148 [.ptr 900 0,.st .nm k] [(900,.box (.agg [.nilm]))] (.ret (.tup [.st .shape ((dV [] k.pkg k.name).getD aJ),.bool (dV [] k.pkg k.name).isSome])):=
 g0 sn a0 Tryz.func148 (M1 k)
theorem BH:ah Tryz.prog 148 (Dg fun m k=>.ret (.tup [.st .shape ((dV (m.getD []) k.pkg k.name).getD aJ),.bool (dV (m.getD []) k.pkg k.name).isSome])):=
 Gs (ee Tryz.func148) (fun k=>Ee k) fun m k=>g0 sn a0 Tryz.func148 (M3 m k)
def NW(n:Nat):=oX fun m s=>⟨some (sz s<=n/\n<=400/\allS aV s=true),none,.tup [.st .shape ((fillS (dV (m.getD [])) s).getD aJ),.bool (fillS (dV (m.getD [])) s).isSome],[]⟩
theorem BI(n:Nat)(s:AL.Shape)(hs:Wf (.st .shape) s)(hn:sz s<=n+1)(h4:n+1<=400)(os:allS aV s=true)(hA:ah Tryz.prog 101 (NW n)):ak Tryz.prog 101 [.st .shape s,.ptr 900 0] [(900,.box (.agg [.nilm]))] (⟨some (sz s<=(n+1)/\(n+1)<=400/\allS aV s=true),none,.tup [.st .shape ((fillS (dV []) s).getD aJ),.bool (fillS (dV []) s).isSome],[]⟩):=
 g0 (sc BH (sc (hA) (sc (mM) sn))) ⟨[(5,fun S0=>⟨Nat×List AL.Shape,fun x=>x.1<=s.parts.length/\x.2.length=x.1/\fillL (dV []) s.parts=(fillL (dV []) (s.parts.drop x.1)).map (x.2++ ·),fun x=>[(30,.int .i64 x.1),(6,.lst (.st .shape) x.2 (some 26))],fun x=>[(26,.tail (.st .shape) x.2.length)],fun x=>s.parts.length-x.1⟩)],[],[]⟩ Tryz.func101 (K3 n s hs hn h4 os)
theorem BJ:Enters Tryz.prog 101:=ee Tryz.func101
theorem BK(n:Nat)(m:List (Nam×Shape))(s:AL.Shape)(hs:Wf (.st .shape) s)(hn:sz s<=n+1)(h4:n+1<=400)(os:allS aV s=true)(hA:ah Tryz.prog 101 (NW n)):ak Tryz.prog 101 [.st .shape s,.ptr 900 0] [(900,.box (.map 901)),(901,.map (.st .nm) (.st .shape) m)] (⟨some (sz s<=(n+1)/\(n+1)<=400/\allS aV s=true),none,.tup [.st .shape ((fillS (dV m) s).getD aJ),.bool (fillS (dV m) s).isSome],[]⟩):=
 g0 (sc BH (sc (hA) (sc (mM) sn))) ⟨[(5,fun S0=>⟨Nat×List AL.Shape,fun x=>x.1<=s.parts.length/\x.2.length=x.1/\fillL (dV m) s.parts=(fillL (dV m) (s.parts.drop x.1)).map (x.2++ ·),fun x=>[(30,.int .i64 x.1),(6,.lst (.st .shape) x.2 (some 26))],fun x=>[(26,.tail (.st .shape) x.2.length)],fun x=>s.parts.length-x.1⟩)],[],[]⟩ Tryz.func101 (K4 n m s hs hn h4 os)
theorem mP:∀n:Nat,ah Tryz.prog 101 (NW n)
 |0=>tU BJ (fun s hs ho=>absurd (fH s) (by have:=(ho _ rfl).1;omega)) (fun m s hs ho=>absurd (fH s) (by have:=(ho _ rfl).1;omega))
 |n+1=>tU BJ (fun s hs ho=>BI n s hs (ho _ rfl).1 (ho _ rfl).2.1 (ho _ rfl).2.2 (mP n)) (fun m s hs ho=>BK n m s hs (ho _ rfl).1 (ho _ rfl).2.1 (ho _ rfl).2.2 (mP n))
theorem yI   :ak Tryz.prog 102 [.lst (.st .bind) [] none] [] (⟨none,none,.ptr 7 0,[(7,.box (.agg [.nilm]))]⟩):=
 g0 (sc BG sn) ⟨[(3,fun S0=>⟨Nat,fun _=>True,fun _=>[(10,.int .i64 0)],fun _=>[],fun _=>0⟩)],[],[]⟩ Tryz.func102 (H9)
theorem uH:ah Tryz.prog 102 (tV ⟨none,none,.ptr 7 0,[(7,.box (.agg [.nilm]))]⟩ fun b r=>⟨none,none,.ptr 7 0,[(7,.box (.map 701)),(701,.map (.st .nm) (.st .shape) (lV (b::r)))]⟩):=
 Ak (ee Tryz.func102) yI fun b r hl=>g0 (sc BG sn) ⟨[(3,fun S0=>⟨Nat×List (Nam×Shape),fun x=>x.1<=(b::r).length/\qH ((b::r).drop x.1) x.2=lV (b::r),fun x=>[(10,.int .i64 x.1)],fun x=>[(7,.box (.map 701)),(701,.map (.st .nm) (.st .shape) x.2)],fun x=>(b::r).length-x.1⟩)],[(200003,[1,13022,701])],[]⟩ Tryz.func102 (Ha b r hl)
theorem uI(s:AL.Shape)(hs:Wf (.st .shape) s) :ak Tryz.prog 59 [.st .shape s,.lst (.st .bind) [] none] [] (.ret (.tup [.st .shape (aN s []).1,.int .i64 (aN s []).2])):=
 g0 (sc gW (sc uH (sc (mP 400) (sc mc sn)))) a0 Tryz.func59 (Bg s hs)
theorem me:ah Tryz.prog 59 (p2 (.st .shape) (.lst (.st .bind)) fun s l=>.ret (.tup [.st .shape (aN s l).1,.int .i64 (aN s l).2])):=
 ca (ee Tryz.func59) fun s l hs hl _=>match l,hl with|[],_=>uI s hs|b::r,hl=>g0 (sc gW (sc uH (sc (mP 400) (sc mc sn)))) a0 Tryz.func59 (DO s b r hs hl)
theorem yJ:ah Tryz.prog 96 (p1 (.int .i64) fun k=>.ret (.st .shape (ofK k))):=
 bA (ee Tryz.func96) fun k _ _=>g0 sn a0 Tryz.func96 (Ng k)
theorem fg:ah Tryz.prog 99 (p2 (.int .i64) (.int .i64) fun e a=>.ret (.agg [.int .i64 e,.int .i64 a])):=
 ca (ee Tryz.func99) fun e a _ _ _=>g0 sn a0 Tryz.func99 (Hb e a)
theorem HC:ah Tryz.prog 192 (p3 (.lst (.st .bind)) .str .str fun l o m=>.ret (.tup [.st .shape ((aO l o m).elim aJ bO),.bool (aO l o m).isSome])):=
 EY (ee Tryz.func192) fun l o m hl _ _ _=>g0 (sc mc sn) ⟨[(2,fun S0=>⟨Nat,fun k=>k<=l.length/\aO l o m=aO (l.take k) o m,fun k=>[(8,.int .i64 ((k:Int)-1))],fun _=>[],fun k=>k⟩)],[],[]⟩ Tryz.func192 (K5 l o m hl)
theorem wT:Enters Tryz.prog 100:=ee Tryz.func100
theorem yK(n:Nat)(t:Trm)(e:Envt)(ht:Wf (.st .term) t)(he:Wf (.st .env) e)(hz:szT t<=n+1)(hf:allT ao t=true)(hv:e.values.length+4096 *szT t<=100000000)(hP:ah Tryz.prog 147 (p2 (.st .term) (.st .env) fun t e=>⟨some (szT t<=n+1/\allT ao t=true/\e.values.length+4096 *szT t<=100000000),none,.tup [.st .shape (bh (ag n) t e).1,.agg [.int .i64 (bh (ag n) t e).2.err,.int .i64 (bh (ag n) t e).2.pos]],[]⟩)):ak Tryz.prog 100 [.st .term t,.st .env e] [] (⟨some (szT t<=n+1/\allT ao t=true/\e.values.length+4096 *szT t<=100000000),none,.tup [.st .shape (ag (n+1) t e).1,.agg [.int .i64 (ag (n+1) t e).2.err,.int .i64 (ag (n+1) t e).2.pos]],[]⟩):=
 g0 (sc (hP) (sc gW (sc mc (sc fg sn)))) a0 Tryz.func100 (Hc n t e ht he hz hf hv)
theorem Km:Enters Tryz.prog 250:=ee Tryz.func250
theorem BL(n:Nat)(t:Trm)(w:Shape)(e:Envt)(ht:Wf (.st .term) t)(hw:Wf (.st .shape) w)(he:Wf (.st .env) e)(hz:szT t<=n)(hf:allT ao t=true)(hv:e.values.length+4096 *szT t<=100000000)(hA:ah Tryz.prog 100 (p2 (.st .term) (.st .env) fun t e=>⟨some (szT t<=n/\allT ao t=true/\e.values.length+4096 *szT t<=100000000),none,.tup [.st .shape (ag n t e).1,.agg [.int .i64 (ag n t e).2.err,.int .i64 (ag n t e).2.pos]],[]⟩)):ak Tryz.prog 250 [.st .term t,.st .shape w,.st .env e] [] (⟨some (szT t<=n/\allT ao t=true/\e.values.length+4096 *szT t<=100000000),none,.agg [.int .i64 (aW (ag n) t w e).err,.int .i64 (aW (ag n) t w e).pos],[]⟩):=
 g0 (sc (hA) (sc Kl (sc fg sn))) a0 Tryz.func250 (K6 n t w e ht hw he hz hf hv)
theorem HD(n:Nat)(hA:ah Tryz.prog 100 (p2 (.st .term) (.st .env) fun t e=>⟨some (szT t<=n/\allT ao t=true/\e.values.length+4096 *szT t<=100000000),none,.tup [.st .shape (ag n t e).1,.agg [.int .i64 (ag n t e).2.err,.int .i64 (ag n t e).2.pos]],[]⟩)):ah Tryz.prog 250 (p3 (.st .term) (.st .shape) (.st .env) fun t w e=>⟨some (szT t<=n/\allT ao t=true/\e.values.length+4096 *szT t<=100000000),none,.agg [.int .i64 (aW (ag n) t w e).err,.int .i64 (aW (ag n) t w e).pos],[]⟩):=
 EY Km fun t w e ht hw he ho=>BL n t w e ht hw he (ho _ rfl).1 (ho _ rfl).2.1 (ho _ rfl).2.2 hA
theorem HE:Enters Tryz.prog 194:=ee Tryz.func194
theorem yL(n:Nat)(t:Trm)(e:Envt)(ht:Wf (.st .term) t)(he:Wf (.st .env) e)(hp:0<t.parts.length)(hz:szT t<=n+1)(hf:allT ao t=true)(hv:e.values.length+4096 *szT t<=100000000)(hA:ah Tryz.prog 100 (p2 (.st .term) (.st .env) fun t e=>⟨some (szT t<=n/\allT ao t=true/\e.values.length+4096 *szT t<=100000000),none,.tup [.st .shape (ag n t e).1,.agg [.int .i64 (ag n t e).2.err,.int .i64 (ag n t e).2.pos]],[]⟩)):ak Tryz.prog 194 [.st .term t,.st .env e] [] (⟨some (0<t.parts.length/\szT t<=n+1/\allT ao t=true/\e.values.length+4096 *szT t<=100000000),none,.tup [.st .shape (iJ (ag n) t e).1,.agg [.int .i64 (iJ (ag n) t e).2.err,.int .i64 (iJ (ag n) t e).2.pos]],[]⟩):=
 g0 (sc (hA) (sc uv (sc fg sn))) a0 Tryz.func194 (Hd n t e ht he hp hz hf hv)
theorem Ef(n:Nat)(hA:ah Tryz.prog 100 (p2 (.st .term) (.st .env) fun t e=>⟨some (szT t<=n/\allT ao t=true/\e.values.length+4096 *szT t<=100000000),none,.tup [.st .shape (ag n t e).1,.agg [.int .i64 (ag n t e).2.err,.int .i64 (ag n t e).2.pos]],[]⟩)):ah Tryz.prog 194 (p2 (.st .term) (.st .env) fun t e=>⟨some (0<t.parts.length/\szT t<=n+1/\allT ao t=true/\e.values.length+4096 *szT t<=100000000),none,.tup [.st .shape (iJ (ag n) t e).1,.agg [.int .i64 (iJ (ag n) t e).2.err,.int .i64 (iJ (ag n) t e).2.pos]],[]⟩):=
 ca HE fun t e ht he ho=>yL n t e ht he (ho _ rfl).1 (ho _ rfl).2.1 (ho _ rfl).2.2.1 (ho _ rfl).2.2.2 hA
theorem Eg:ah Tryz.prog 251 (p2 (.st .term) (.st .env) fun t e=>⟨some (t.shapes.length<=1000000),none,.tup [.lst (.st .shape) (ar e.types t.pos t.shapes).1 (some 702),.agg [.int .i64 (ar e.types t.pos t.shapes).2.err,.int .i64 (ar e.types t.pos t.shapes).2.pos]],[(702,.tail (.st .shape) (ar e.types t.pos t.shapes).1.length)]⟩):=
 ca (ee Tryz.func251) fun t e ht he ho=>g0 (sc me (sc fg sn)) ⟨[(3,fun S0=>⟨Nat×List AL.Shape,fun x=>x.1<=t.shapes.length/\x.2.length=x.1/\((ar e.types t.pos (t.shapes.drop x.1)).2.err=0->ar e.types t.pos t.shapes=(x.2++(ar e.types t.pos (t.shapes.drop x.1)).1,cQ))/\(¬(ar e.types t.pos (t.shapes.drop x.1)).2.err=0->ar e.types t.pos t.shapes=ar e.types t.pos (t.shapes.drop x.1)),fun x=>[(14,.int .i64 x.1),(6,.lst (.st .shape) x.2 (some 701))],fun x=>[(701,.tail (.st .shape) x.2.length)],fun x=>t.shapes.length-x.1⟩)],[(300010,[701,702])],[]⟩ Tryz.func251 (He t e ht he (ho _ rfl))
theorem Kn:Enters Tryz.prog 193:=ee Tryz.func193
theorem BM(n:Nat)(t:Trm)(e:Envt)(ht:Wf (.st .term) t)(he:Wf (.st .env) e)(hp:0<t.parts.length)(hz:szT t<=n+1)(hf:allT ao t=true)(hv:e.values.length+4096 *szT t<=100000000)(hA:ah Tryz.prog 100 (p2 (.st .term) (.st .env) fun t e=>⟨some (szT t<=n/\allT ao t=true/\e.values.length+4096 *szT t<=100000000),none,.tup [.st .shape (ag n t e).1,.agg [.int .i64 (ag n t e).2.err,.int .i64 (ag n t e).2.pos]],[]⟩))(hF:ah Tryz.prog 250 (p3 (.st .term) (.st .shape) (.st .env) fun t w e=>⟨some (szT t<=n/\allT ao t=true/\e.values.length+4096 *szT t<=100000000),none,.agg [.int .i64 (aW (ag n) t w e).err,.int .i64 (aW (ag n) t w e).pos],[]⟩)):ak Tryz.prog 193 [.st .term t,.st .env e] [] (⟨some (0<t.parts.length/\szT t<=n+1/\allT ao t=true/\e.values.length+4096 *szT t<=100000000),none,.tup [.st .shape (fW (ag n) t e).1,.agg [.int .i64 (fW (ag n) t e).2.err,.int .i64 (fW (ag n) t e).2.pos]],[]⟩):=
 g0 (sc (hA) (sc (hF) (sc yJ (sc fg sn)))) ⟨[(8,fun S0=>⟨Nat,fun k=>k+1<=t.parts.length/\((ag n (t.parts.getD 0 aS) e).1.kind=4->dm (ag n) e (ofK 4) (t.parts.drop 1)=dm (ag n) e (ofK 4) (t.parts.drop (k+1)))/\(¬(ag n (t.parts.getD 0 aS) e).1.kind=4->fV (ag n) e (t.parts.drop 1) (ag n (t.parts.getD 0 aS) e).1.parts=fV (ag n) e (t.parts.drop (k+1)) ((ag n (t.parts.getD 0 aS) e).1.parts.drop k)),fun k=>[(54,.int .i64 k)],fun _=>[],fun k=>t.parts.length-k⟩)],[],[(5,fun S0=>⟨[(45,.bool (!decide ((ag n (t.parts.getD 0 aS) e).1.kind=4)&&(!decide ((ag n (t.parts.getD 0 aS) e).1.kind=8)||!decide ((ag n (t.parts.getD 0 aS) e).1.parts.length=t.parts.length))))],[]⟩)]⟩ Tryz.func193 (K7 n t e ht he hp hz hf hv)
theorem HF(n:Nat)(hA:ah Tryz.prog 100 (p2 (.st .term) (.st .env) fun t e=>⟨some (szT t<=n/\allT ao t=true/\e.values.length+4096 *szT t<=100000000),none,.tup [.st .shape (ag n t e).1,.agg [.int .i64 (ag n t e).2.err,.int .i64 (ag n t e).2.pos]],[]⟩))(hF:ah Tryz.prog 250 (p3 (.st .term) (.st .shape) (.st .env) fun t w e=>⟨some (szT t<=n/\allT ao t=true/\e.values.length+4096 *szT t<=100000000),none,.agg [.int .i64 (aW (ag n) t w e).err,.int .i64 (aW (ag n) t w e).pos],[]⟩)):ah Tryz.prog 193 (p2 (.st .term) (.st .env) fun t e=>⟨some (0<t.parts.length/\szT t<=n+1/\allT ao t=true/\e.values.length+4096 *szT t<=100000000),none,.tup [.st .shape (fW (ag n) t e).1,.agg [.int .i64 (fW (ag n) t e).2.err,.int .i64 (fW (ag n) t e).2.pos]],[]⟩):=
 ca Kn fun t e ht he ho=>BM n t e ht he (ho _ rfl).1 (ho _ rfl).2.1 (ho _ rfl).2.2.1 (ho _ rfl).2.2.2 hA hF
theorem M9:Enters Tryz.prog 196:=ee Tryz.func196
theorem Eh(n:Nat)(t:Trm)(e:Envt)(ht:Wf (.st .term) t)(he:Wf (.st .env) e)(hp:0<t.parts.length)(hz:szT t<=n+1)(hf:allT ao t=true)(hv:e.values.length+4096 *szT t<=100000000)(hF:ah Tryz.prog 250 (p3 (.st .term) (.st .shape) (.st .env) fun t w e=>⟨some (szT t<=n/\allT ao t=true/\e.values.length+4096 *szT t<=100000000),none,.agg [.int .i64 (aW (ag n) t w e).err,.int .i64 (aW (ag n) t w e).pos],[]⟩)):ak Tryz.prog 196 [.st .term t,.st .env e] [] (⟨some (0<t.parts.length/\szT t<=n+1/\allT ao t=true/\e.values.length+4096 *szT t<=100000000),none,.tup [.st .shape (nP (ag n) t e).1,.agg [.int .i64 (nP (ag n) t e).2.err,.int .i64 (nP (ag n) t e).2.pos]],[]⟩):=
 g0 (sc (hF) (sc mc (sc fg sn))) ⟨[(4,fun S0=>⟨Nat×Option Shape,fun x=>x.1<=e.own.length/\(x.2=none->dL e.own t.name=dL (e.own.take x.1) t.name)/\(∀s,x.2=some s->dL e.own t.name=some s),fun x=>[(8,.int .i64 ((x.1:Int)-1)),(7,.bool x.2.isSome)],fun x=>[(6,.box (.st .shape (x.2.elim aJ bO)))],fun x=>x.1⟩)],[],[]⟩ Tryz.func196 (M4 n t e ht he hp hz hf hv)
theorem Ko(n:Nat)(hF:ah Tryz.prog 250 (p3 (.st .term) (.st .shape) (.st .env) fun t w e=>⟨some (szT t<=n/\allT ao t=true/\e.values.length+4096 *szT t<=100000000),none,.agg [.int .i64 (aW (ag n) t w e).err,.int .i64 (aW (ag n) t w e).pos],[]⟩)):ah Tryz.prog 196 (p2 (.st .term) (.st .env) fun t e=>⟨some (0<t.parts.length/\szT t<=n+1/\allT ao t=true/\e.values.length+4096 *szT t<=100000000),none,.tup [.st .shape (nP (ag n) t e).1,.agg [.int .i64 (nP (ag n) t e).2.err,.int .i64 (nP (ag n) t e).2.pos]],[]⟩):=
 ca M9 fun t e ht he ho=>Eh n t e ht he (ho _ rfl).1 (ho _ rfl).2.1 (ho _ rfl).2.2.1 (ho _ rfl).2.2.2 hF
theorem HG:Enters Tryz.prog 197:=ee Tryz.func197
theorem yM(n:Nat)(t:Trm)(e:Envt)(ht:Wf (.st .term) t)(he:Wf (.st .env) e)(hk:t.kind=6∨t.kind=11∨t.kind=12∨t.kind=13∨t.kind=15)(hz:szT t<=n+1)(hf:allT ao t=true)(hv:e.values.length+4096 *szT t<=100000000)(hA:ah Tryz.prog 100 (p2 (.st .term) (.st .env) fun t e=>⟨some (szT t<=n/\allT ao t=true/\e.values.length+4096 *szT t<=100000000),none,.tup [.st .shape (ag n t e).1,.agg [.int .i64 (ag n t e).2.err,.int .i64 (ag n t e).2.pos]],[]⟩))(hF:ah Tryz.prog 250 (p3 (.st .term) (.st .shape) (.st .env) fun t w e=>⟨some (szT t<=n/\allT ao t=true/\e.values.length+4096 *szT t<=100000000),none,.agg [.int .i64 (aW (ag n) t w e).err,.int .i64 (aW (ag n) t w e).pos],[]⟩)):ak Tryz.prog 197 [.st .term t,.st .env e] [] (⟨some ((t.kind=6∨t.kind=11∨t.kind=12∨t.kind=13∨t.kind=15)/\szT t<=n+1/\allT ao t=true/\e.values.length+4096 *szT t<=100000000),none,.tup [.st .shape (cO (ag n) t e).1,.agg [.int .i64 (cO (ag n) t e).2.err,.int .i64 (cO (ag n) t e).2.pos]],[]⟩):=
 g0 (sc (hA) (sc (hF) (sc Eg (sc yJ (sc BD sn))))) ⟨[(8,fun S0=>⟨Nat×Envt,fun x=>x.1<=t.names.length/\x.2.values.length=e.values.length+x.1/\cb x.2 (gU (t.names.drop x.1) ((ar e.types t.pos t.shapes).1.drop x.1))=cb e (gU t.names (ar e.types t.pos t.shapes).1),fun x=>[(42,.int .i64 x.1)],fun x=>[(3,.box (.st .env x.2))],fun x=>t.names.length-x.1⟩),(16,fun S0=>⟨Nat,fun k=>k<=t.parts.length/\dm (ag n) e ((ar e.types t.pos t.shapes).1.getD 0 aJ) (t.parts.drop k)=dm (ag n) e ((ar e.types t.pos t.shapes).1.getD 0 aJ) t.parts,fun k=>[(77,.int .i64 k)],fun _=>[],fun k=>t.parts.length-k⟩),(37,fun S0=>⟨Nat×Flt,fun x=>x.1+1<=t.parts.length/\x.2.err=0/\x.2.pos=0/\gz (ag n) e ((ar e.types t.pos t.shapes).1.getD ((ar e.types t.pos t.shapes).1.length-1) aJ) (t.parts.drop (x.1+1)) (t.vars.drop x.1) ((ar e.types t.pos t.shapes).1.drop x.1)=gz (ag n) e ((ar e.types t.pos t.shapes).1.getD ((ar e.types t.pos t.shapes).1.length-1) aJ) (t.parts.drop 1) t.vars (ar e.types t.pos t.shapes).1,fun x=>[(180,.int .i64 x.1)],fun x=>[(7,.box (.agg [.int .i64 x.2.err,.int .i64 x.2.pos]))],fun x=>t.parts.length-x.1⟩)],[],[]⟩ Tryz.func197 (Hf n t e ht he hk hz hf hv)
theorem Ei(n:Nat)(hA:ah Tryz.prog 100 (p2 (.st .term) (.st .env) fun t e=>⟨some (szT t<=n/\allT ao t=true/\e.values.length+4096 *szT t<=100000000),none,.tup [.st .shape (ag n t e).1,.agg [.int .i64 (ag n t e).2.err,.int .i64 (ag n t e).2.pos]],[]⟩))(hF:ah Tryz.prog 250 (p3 (.st .term) (.st .shape) (.st .env) fun t w e=>⟨some (szT t<=n/\allT ao t=true/\e.values.length+4096 *szT t<=100000000),none,.agg [.int .i64 (aW (ag n) t w e).err,.int .i64 (aW (ag n) t w e).pos],[]⟩)):ah Tryz.prog 197 (p2 (.st .term) (.st .env) fun t e=>⟨some ((t.kind=6∨t.kind=11∨t.kind=12∨t.kind=13∨t.kind=15)/\szT t<=n+1/\allT ao t=true/\e.values.length+4096 *szT t<=100000000),none,.tup [.st .shape (cO (ag n) t e).1,.agg [.int .i64 (cO (ag n) t e).2.err,.int .i64 (cO (ag n) t e).2.pos]],[]⟩):=
 ca HG fun t e ht he ho=>yM n t e ht he (ho _ rfl).1 (ho _ rfl).2.1 (ho _ rfl).2.2.1 (ho _ rfl).2.2.2 hA hF
theorem HH:Enters Tryz.prog 147:=ee Tryz.func147
theorem yN(n:Nat)(t:Trm)(e:Envt)(ht:Wf (.st .term) t)(he:Wf (.st .env) e)(hz:szT t<=n+1)(hf:allT ao t=true)(hv:e.values.length+4096 *szT t<=100000000)(hA:ah Tryz.prog 100 (p2 (.st .term) (.st .env) fun t e=>⟨some (szT t<=n/\allT ao t=true/\e.values.length+4096 *szT t<=100000000),none,.tup [.st .shape (ag n t e).1,.agg [.int .i64 (ag n t e).2.err,.int .i64 (ag n t e).2.pos]],[]⟩))(hF:ah Tryz.prog 250 (p3 (.st .term) (.st .shape) (.st .env) fun t w e=>⟨some (szT t<=n/\allT ao t=true/\e.values.length+4096 *szT t<=100000000),none,.agg [.int .i64 (aW (ag n) t w e).err,.int .i64 (aW (ag n) t w e).pos],[]⟩)):ak Tryz.prog 147 [.st .term t,.st .env e] [] (⟨some (szT t<=n+1/\allT ao t=true/\e.values.length+4096 *szT t<=100000000),none,.tup [.st .shape (bh (ag n) t e).1,.agg [.int .i64 (bh (ag n) t e).2.err,.int .i64 (bh (ag n) t e).2.pos]],[]⟩):=
 g0 (sc (hA) (sc yJ (sc fg (sc HC (sc BD (sc ((HF n hA hF)) (sc ((Ef n hA)) (sc ((Ko n hF)) (sc ((Ei n hA hF)) sn))))))))) ⟨[(19,fun S0=>⟨Nat×List AL.Shape,fun x=>x.1<=t.parts.length/\x.2.length=x.1/\dw (ag n) e t.parts=(x.2++(dw (ag n) e (t.parts.drop x.1)).1,(dw (ag n) e (t.parts.drop x.1)).2),fun x=>[(67,.int .i64 x.1)],fun x=>[(8,.box (.agg [.int .i64 6,.str [],.str [],.lst .str t.names none,.lst (.st .shape) x.2 (some 701)])),(701,.tail (.st .shape) x.2.length)],fun x=>t.parts.length-x.1⟩)],[],[(7,fun S0=>⟨[(27,.bool (decide (t.kind=3)||decide (t.kind=4)))],[]⟩)]⟩ Tryz.func147 (Hg n t e ht he hz hf hv)
theorem wU:∀n:Nat,ah Tryz.prog 100 (p2 (.st .term) (.st .env) fun t e=>⟨some (szT t<=n/\allT ao t=true/\e.values.length+4096 *szT t<=100000000),none,.tup [.st .shape (ag n t e).1,.agg [.int .i64 (ag n t e).2.err,.int .i64 (ag n t e).2.pos]],[]⟩)
 |0=>ca wT fun t e ht he ho=>absurd (hX t) (by have:=(ho _ rfl).1;omega)
 |n+1=>
  have hA:=wU n;have hF:=HD n hA
  ca wT fun t e ht he ho=>yK n t e ht he (ho _ rfl).1 (ho _ rfl).2.1 (ho _ rfl).2.2 (ca HH fun t e ht he ho=>yN n t e ht he (ho _ rfl).1 (ho _ rfl).2.1 (ho _ rfl).2.2 hA hF)
theorem HI:ah Tryz.prog 58 (p2 (.st .term) (.st .env) fun t e=>⟨some (cd t=true/\e.values.length<=1000000),none,.tup [.st .shape (fI t e).1,.agg [.int .i64 (fI t e).2.err,.int .i64 (fI t e).2.pos]],[]⟩):=
 ca (ee Tryz.func58) fun t e ht he ho=>g0 (sc uE (sc fg (sc ((wU (szT t))) sn))) a0 Tryz.func58 (K8 t e ht he (ho _ rfl))
theorem Ej:ah Tryz.prog 202 (p2 .str (.int .u8) fun s c=>⟨some (c=48),none,.str (di s),[]⟩):=
 ca (ee Tryz.func202) fun s c hs _ ho=>g0 sn ⟨[(1,fun S0=>⟨Nat,fun k=>k<=s.length/\di s=di (s.drop k),fun k=>[(0,.str (s.drop k))],fun _=>[],fun k=>s.length-k⟩)],[],[]⟩ Tryz.func202 (Hh s c hs (ho _ rfl))
theorem yO:ah Tryz.prog 232 (p2 .str .str fun s t=>⟨some (t=[48]),none,.str (di s),[]⟩):=
 ca (ee Tryz.func232) fun s t _ _ ho=>g0 (sc Ej sn) a0 Tryz.func232 (Bh s t (ho _ rfl))
theorem Kp:ah Tryz.prog 185 (p1 (.int .i64) fun a=>.ret (.bool false)):=
 bA (ee Tryz.func185) fun a _ _=>g0 sn a0 Tryz.func185 (M5 a)
theorem uJ:ah Tryz.prog 138 (p2 (.int .i64) (.int .i64) fun a b=>.ret (.int .i64 (cmpI a b))):=
 ca (ee Tryz.func138) fun a b _ _ _=>g0 (sc Kp sn) a0 Tryz.func138 (Hi a b)
theorem Fu:ah Tryz.prog 41 (p1 (.lst (.int .i64)) fun l=>.ret (.int .i64 (orI l))):=
 bA (ee Tryz.func41) fun l hl _=>g0 sn ⟨[(3,fun S0=>⟨Nat,fun k=>k<=l.length/\orI l=orI (l.drop k),fun k=>[(8,.int .i64 k)],fun _=>[],fun k=>l.length-k⟩)],[],[]⟩ Tryz.func41 (Nh l hl)
theorem BN:ah Tryz.prog 186 (p2 .str .str fun a b=>.ret (.int .i64 (Gk a b))):=
 ca (ee Tryz.func186) fun a b _ _ _=>g0 (sc yO (sc uJ (sc (qP) (sc Fu sn)))) a0 Tryz.func186 (DQ a b)
theorem Ek:ah Tryz.prog 139 (p2 .str .str fun a b=>.ret (.int .i64 (mQ a b))):=
 ca (ee Tryz.func139) fun a b _ _ _=>g0 (sc qS (sc BN (sc (qP) sn))) a0 Tryz.func139 (Hj a b)
theorem Kq:ah Tryz.prog 89 (p2 (.st .version) (.st .version) fun a b=>⟨some (a.pre.length<=4096/\b.pre.length<=4096),none,.int .i64 (lT a b),[]⟩):=
 ca (ee Tryz.func89) fun a b _ _ ho=>g1 nn (fun _=>[]) nn nn (fun d=>Nat.beq d 17||Nat.beq d 22||Nat.beq d 27||Nat.beq d 29||Nat.beq d 43||Nat.beq d 46||Nat.beq d 63) (sc uJ (sc Fu (sc Ek (sc (pT) sn)))) ⟨[(12,fun S0=>⟨Nat,fun k=>k<=(splitB 46 a.pre).length/\k<=(splitB 46 b.pre).length/\kR (splitB 46 a.pre) (splitB 46 b.pre)=kR ((splitB 46 a.pre).drop k) ((splitB 46 b.pre).drop k),fun k=>[(52,.int .i64 k)],fun _=>[],fun k=>(splitB 46 a.pre).length-k⟩)],[],[]⟩ Tryz.func89 (M6 a b (ho _ rfl))
theorem HJ:ah Tryz.prog 88 (p1 (.int .i64) fun n=>.ret (.str (tQ n))):=
 bA (ee Tryz.func88) fun n _ _=>g0 sn a0 Tryz.func88 (K9 n)
theorem El:ah Tryz.prog 49 (p1 (.lst (.st .bound)) fun l=>.ret (.int .i64 (mR l))):=
 bA (ee Tryz.func49) fun l hl _=>g0 (sc HJ (sc uF sn)) ⟨[(4,fun S0=>⟨Nat,fun k=>k<=l.length/\l.all lU=(l.drop k).all lU,fun k=>[(10,.int .i64 k)],fun _=>[],fun k=>l.length-k⟩)],[],[]⟩ Tryz.func49 (Hk l hl)
theorem Em:ah Tryz.prog 50 (p2 (.st .version) (.lst (.st .bound)) fun v l=>⟨some (v.pre.length<=4096/\∀b∈l,b.v.pre.length<=4096),none,.bool (dU v l),[]⟩):=
 ca (ee Tryz.func50) fun v l _ hl ho=>g0 (sc Kq sn) ⟨[(2,fun S0=>⟨Nat,fun k=>k<=l.length/\dU v l=dU v (l.drop k),fun k=>[(10,.int .i64 k)],fun _=>[],fun k=>l.length-k⟩)],[],[]⟩ Tryz.func50 (Hl v l hl (ho _ rfl))
theorem En:Enters Tryz.prog 141:=ee Tryz.func141
theorem vA(n:Nat)(x:Shape)(ho:sz x<=n)(hA:ah Tryz.prog 90 (p1 (.st .shape) fun s=>⟨some (sz s<=n),none,.bool (allS aP s),[]⟩)):ak Tryz.prog 141 [.st .shape x] [] (⟨some (sz x<=n),none,.bool (!allS aP x),[]⟩):=
 g0 (sc (hA) sn) a0 Tryz.func141 (DR n x ho)
theorem BO(n:Nat)(hA:ah Tryz.prog 90 (p1 (.st .shape) fun s=>⟨some (sz s<=n),none,.bool (allS aP s),[]⟩)):ah Tryz.prog 141 (p1 (.st .shape) fun x=>⟨some (sz x<=n),none,.bool (!allS aP x),[]⟩):=
 bA En fun x _ ho=>vA n x (ho _ rfl) hA
theorem Eo:Enters Tryz.prog 187:=ee Tryz.func187
theorem vB(n:Nat)(l:List AL.Shape)(hl:Wf (.lst (.st .shape)) l)(ho:∀x∈l,sz x<=n)(hA:ah Tryz.prog 90 (p1 (.st .shape) fun s=>⟨some (sz s<=n),none,.bool (allS aP s),[]⟩)):ak Tryz.prog 187 [.lst (.st .shape) l none,.fn 141 []] [] (⟨some (∀x∈l,sz x<=n),none,.int .i64 (ba (allS aP) l 0),[]⟩):=
 g0 (sc (BO n hA) sn) ⟨[(2,fun S0=>⟨Nat,fun k=>k<=l.length/\ba (allS aP) (l.drop k) k=ba (allS aP) l 0,fun k=>[(8,.int .i64 k)],fun _=>[],fun k=>l.length-k⟩)],[],[]⟩ Tryz.func187 (DS n l hl ho)
theorem BP(n:Nat)(hA:ah Tryz.prog 90 (p1 (.st .shape) fun s=>⟨some (sz s<=n),none,.bool (allS aP s),[]⟩)):ah Tryz.prog 187 (pf (.lst (.st .shape)) 141 fun l=>⟨some (∀x∈l,sz x<=n),none,.int .i64 (ba (allS aP) l 0),[]⟩):=
 n9 Eo fun l hl ho=>vB n l hl (ho _ rfl) hA
theorem Ep:Enters Tryz.prog 140:=ee Tryz.func140
theorem vC(n:Nat)(l:List AL.Shape)(hl:Wf (.lst (.st .shape)) l)(ho:∀x∈l,sz x<=n)(hA:ah Tryz.prog 90 (p1 (.st .shape) fun s=>⟨some (sz s<=n),none,.bool (allS aP s),[]⟩)):ak Tryz.prog 140 [.lst (.st .shape) l none,.fn 141 []] [] (⟨some (∀x∈l,sz x<=n),none,.bool (!l.all (allS aP)),[]⟩):=
 g0 (sc (BP n hA) sn) a0 Tryz.func140 (DT n l hl ho)
theorem BQ(n:Nat)(hA:ah Tryz.prog 90 (p1 (.st .shape) fun s=>⟨some (sz s<=n),none,.bool (allS aP s),[]⟩)):ah Tryz.prog 140 (pf (.lst (.st .shape)) 141 fun l=>⟨some (∀x∈l,sz x<=n),none,.bool (!l.all (allS aP)),[]⟩):=
 n9 Ep fun l hl ho=>vC n l hl (ho _ rfl) hA
theorem BR:Enters Tryz.prog 90:=ee Tryz.func90
theorem BS(n:Nat)(s:AL.Shape)(ho:sz s<=n+1)(hE:ah Tryz.prog 140 (pf (.lst (.st .shape)) 141 fun l=>⟨some (∀x∈l,sz x<=n),none,.bool (!l.all (allS aP)),[]⟩)):ak Tryz.prog 90 [.st .shape s] [] (⟨some (sz s<=n+1),none,.bool (allS aP s),[]⟩):=
 g0 (sc (hE) sn) a0 Tryz.func90 (Ka n s ho)
theorem wV:∀n:Nat,ah Tryz.prog 90 (p1 (.st .shape) fun s=>⟨some (sz s<=n),none,.bool (allS aP s),[]⟩)
 |0=>bA BR fun s _ ho=>absurd (fH s) (by have:=ho _ rfl;omega)
 |n+1=>bA BR fun s _ ho=>BS n s (ho _ rfl) (BQ n (wV n))
theorem uK:ah Tryz.prog 53 (p1 (.lst .str) fun l=>⟨some (l.length *16<=140737488355328),none,.bool (decide l.Nodup),[]⟩):=
 bA (ee Tryz.func53) fun l _ ho=>g0 (sc nY (sc (nO) (sc (lR) sn))) a0 Tryz.func53 (Hm l (ho _ rfl))
theorem HK:ah Tryz.prog 51 (p1 (.st .decl) fun d=>⟨some (cP d=true),none,.bool (gH d),[]⟩):=
 bA (ee Tryz.func51) fun d _ ho=>g0 (sc kj (sc jm (sc gW (sc (wV 400) (sc uE sn))))) ⟨[],[],[(1,fun S0=>⟨[(3,.bool (noS d.shape))],[]⟩),(3,fun S0=>⟨[(5,.bool (noT d.term))],[]⟩)]⟩ Tryz.func51 (Kb d (ho _ rfl))
theorem nZ:ah Tryz.prog 21 (p1 (.st .modu) fun m=>⟨some (m.decls.all cP=true/\m.decls.length<=1000000),none,.int .i64 (bq m),[]⟩):=
 bA (ee Tryz.func21) fun m hm ho=>g0 (sc jm (sc kj (sc uF (sc El (sc Em (sc HK (sc uK sn))))))) ⟨[(5,fun S0=>⟨Nat,fun k=>k<=m.imports.length/\m.imports.all mS=(m.imports.drop k).all mS,fun k=>[(3,.lst .str (m.name::(m.imports.take k).map (·.name)) (some 34)),(38,.int .i64 k)],fun k=>[(34,.tail .str (m.name::(m.imports.take k).map (·.name)).length)],fun k=>m.imports.length-k⟩),(13,fun S0=>⟨Nat,fun k=>k<=m.decls.length/\m.decls.all lX=(m.decls.drop k).all lX,fun k=>[(6,.lst .str (l7++(m.decls.take k).map (·.name)) (some 77)),(81,.int .i64 k)],fun k=>[(77,.tail .str (l7++(m.decls.take k).map (·.name)).length)],fun k=>m.decls.length-k⟩),(20,fun S0=>⟨Nat,fun k=>k<=m.exports.length/\m.exports.all lY=(m.exports.drop k).all lY,fun k=>[(102,.int .i64 k)],fun _=>[],fun k=>m.exports.length-k⟩)],[],[]⟩ Tryz.func21 (Hn m hm (ho _ rfl))
theorem vD(l:List Depd)(N:Nat)(hl:Wf (.lst (.st .dep)) l)(hN:∀d∈l,∀x∈d.items,sz x.shape<=N) :ak Tryz.prog 7 [.lst (.st .dep) l none] [] (.ret (.bool (iE l 0 0))):=
 g0 (sc (Bn N) sn) ⟨[(3,fun S0=>⟨Nat×Int,fun x=>x.1<=l.length/\0<=x.2/\x.2<=4000/\iE (l.drop x.1) x.2 x.1=iE l 0 0,fun x=>[(3,.int .i64 x.2),(4,.int .i64 x.1)],fun _=>[],fun x=>l.length-x.1⟩),(8,fun S0=>oz S0 4 fun j=>⟨Nat×Int,fun x=>x.1<=(l.getD j.toNat (dfl (.st .dep))).items.length/\0<=x.2/\x.2<=4000/\Dr l j.toNat x.1 x.2=iE l 0 0,fun x=>[(3,.int .i64 x.2),(5,.int .i64 x.1)],fun _=>[],fun x=>(l.getD j.toNat (dfl (.st .dep))).items.length-x.1⟩)],[],[]⟩ Tryz.func7 (DU l N hl hN)
theorem BT:ah Tryz.prog 7 (p1 (.lst (.st .dep)) fun l=>.ret (.bool (iE l 0 0))):=
 bA (ee Tryz.func7) fun l hl _=>vD l (szD l) hl (Jj l)
theorem BU(a b:List AL.Item)(N:Nat)(ha:Wf (.lst (.st .item)) a)(hb:Wf (.lst (.st .item)) b)(hN:∀x∈a,sz x.shape<=N) :ak Tryz.prog 10 [.lst (.st .item) a none,.lst (.st .item) b none] [] (.ret (.bool (kf a b))):=
 g0 (sc (E3 N) sn) ⟨[(4,fun S0=>⟨Nat,fun k=>k<=a.length/\a.length=b.length/\kf a b=kf (a.drop k) (b.drop k),fun k=>[(5,.int .i64 k)],fun _=>[],fun k=>a.length-k⟩)],[],[]⟩ Tryz.func10 (Kc a b N ha hb hN)
theorem HL:ah Tryz.prog 10 (p2 (.lst (.st .item)) (.lst (.st .item)) fun a b=>.ret (.bool (kf a b))):=
 ca (ee Tryz.func10) fun a b ha hb _=>BU a b (szI a) ha hb (yk a)
theorem vE(se:Str)(ty va:List Bndg)(o n:Str)(x:Shape)(hl:va.length<=1000000) :ak Tryz.prog 57 [.ptr 900 0,.str o,.str n,.st .shape x] (sc1 se ty va) (⟨some (va.length<=1000000),none,.tup [],[(900,.box (.agg [.str se,.lst (.st .bind) ty (some 901),.lst (.st .bind) (va++[AL.Bndg.mk o n x]) (some 902),.nils])),(902,.tail (.st .bind) (va.length+1))]⟩):=
 g0 sn a0 Tryz.func57 (DV se ty va o n x hl)
theorem qU:ah Tryz.prog 57 (LG (fun se ty va o n x=>⟨some (va.length<=1000000),none,.tup [],[(900,.box (.agg [.str se,.lst (.st .bind) ty (some 901),.lst (.st .bind) (va++[AL.Bndg.mk o n x]) (some 902),.nils])),(902,.tail (.st .bind) (va.length+1))]⟩) fun e o n x=>⟨some (e.values.length<=1000000),none,.tup [],[(900,.box (.agg [.str e.self,.lst (.st .bind) e.types none,.lst (.st .bind) (e.values++[AL.Bndg.mk o n x]) (some 901),.lst (.st .bind) e.own (some 902)])),(901,.tail (.st .bind) (e.values.length+1))]⟩):=
 LH (ee Tryz.func57) (fun se ty va o n x ho=>vE se ty va o n x (ho _ rfl)) fun e o n x ho=>g0 sn a0 Tryz.func57 (DW e o n x (ho _ rfl))
theorem Kr:ah Tryz.prog 61 (Nb fun e n x=>⟨some (e.own.length<=1000000),none,.tup [],[(900,.box (.agg [.str e.self,.lst (.st .bind) e.types none,.lst (.st .bind) e.values (some 901),.lst (.st .bind) (e.own++[AL.Bndg.mk [] n x]) (some 902)])),(902,.tail (.st .bind) (e.own.length+1))]⟩):=
 LI (ee Tryz.func61) fun e n x ho=>g0 sn a0 Tryz.func61 (M7 e n x (ho _ rfl))
theorem uL:Enters Tryz.prog 97:=ee Tryz.func97
theorem vF(n:Nat)(s:AL.Shape)(hs:Wf (.st .shape) s)(ho:sz s<=n+1/\allS nmU s=true)(hA:ah Tryz.prog 97 (p1 (.st .shape) fun s=>⟨some (sz s<=n/\allS nmU s=true),none,.st .shape s,[]⟩)):ak Tryz.prog 97 [.st .shape s] [] (⟨some (sz s<=n+1/\allS nmU s=true),none,.st .shape s,[]⟩):=
 g0 (sc (mM) (sc (hA) sn)) ⟨[(4,fun S0=>⟨Nat,fun k=>k<=s.parts.length,fun k=>[(3,.lst (.st .shape) (s.parts.take k) (some 701)),(13,.int .i64 k)],fun k=>[(701,.tail (.st .shape) (s.parts.take k).length)],fun k=>s.parts.length-k⟩)],[],[]⟩ Tryz.func97 (DX n s hs ho)
theorem qV:∀n:Nat,ah Tryz.prog 97 (p1 (.st .shape) fun s=>⟨some (sz s<=n/\allS nmU s=true),none,.st .shape s,[]⟩)
 |0=>bA uL fun s hs ho=>absurd (fH s) (by have:=(ho _ rfl).1;omega)
 |n+1=>bA uL fun s hs ho=>vF n s hs (ho _ rfl) (qV n)
theorem yP(o:Str)(l:List AL.Item)(N:Nat)(hl:Wf (.lst (.st .item)) l)(hN:∀x∈l,sz x.shape<=N)(ho:(l.length<=1048576/\∀x∈l,allS nmU x.shape=true)) :ak Tryz.prog 55 [.str o,.lst (.st .item) l none] [] (⟨some (l.length<=1048576/\∀x∈l,allS nmU x.shape=true),none,.lst (.st .bind) (bc o l) none,[]⟩):=
 g0 (sc (qV N) sn) ⟨[(3,fun S0=>⟨Nat,fun k=>k<=l.length,fun k=>[(5,.lst (.st .bind) (bc o (l.take k)) (some 701)),(10,.int .i64 k)],fun k=>[(701,.tail (.st .bind) (bc o (l.take k)).length)],fun k=>l.length-k⟩)],[],[]⟩ Tryz.func55 (Ho o l N hl hN ho)
theorem Er:ah Tryz.prog 55 (p2 .str (.lst (.st .item)) fun o l=>⟨some (l.length<=1048576/\∀x∈l,allS nmU x.shape=true),none,.lst (.st .bind) (bc o l) none,[]⟩):=
 ca (ee Tryz.func55) fun o l _ hl ho=>yP o l (szI l) hl (yk l) (ho _ rfl)
theorem yQ:ah Tryz.prog 60 (p3 (.lst (.st .bind)) .str (.st .decl) fun l se d=>⟨some (l.length<=1000000/\(d.kind=1∨d.kind=2)/\(aN d.shape l).2=0),none,.tup [.lst (.st .bind) (l++[fU d.name (if d.kind=2 then eh se d.name else(aN d.shape l).1)]) none,.int .i64 0],[]⟩):=
 EY (ee Tryz.func60) fun l se d hl _ hd ho=>g0 (sc uG (sc (me) sn)) a0 Tryz.func60 (Bi l se d hl hd (ho _ rfl))
theorem ru(c:Cst)(d:Dcl)(r:DcC)(hd:Wf (.st .decl) d)(ho:((d.kind=1∨d.kind=2∨d.kind=3)/\(d.kind=3->cd d.term=true)/\c.e.types.length<=1000000/\c.e.values.length<=1000000/\c.e.own.length<=1000000))(hr:kW d c=r) :ak Tryz.prog 24 [.ptr 900 0,.st .decl d] (ck2 c) (⟨some ((d.kind=1∨d.kind=2∨d.kind=3)/\(d.kind=3->cd d.term=true)/\c.e.types.length<=1000000/\c.e.values.length<=1000000/\c.e.own.length<=1000000),none,.st .fault r.f,ck2 r.c⟩):=
 g1 nn (fun f=>if Nat.beq f 57||Nat.beq f 61 then[some 1004]else[]) nn nn nn (sc (HI) (sc (me) (sc qU (sc yQ (sc Kr sn))))) a0 Tryz.func24 (yt c d r hd ho hr)
theorem vG:ah Tryz.prog 24 (JI fun c d=>⟨some ((d.kind=1∨d.kind=2∨d.kind=3)/\(d.kind=3->cd d.term=true)/\c.e.types.length<=1000000/\c.e.values.length<=1000000/\c.e.own.length<=1000000),none,.st .fault (kW d c).f,ck2 (kW d c).c⟩):=
 JJ (ee Tryz.func24) fun c d hd ho=>ru c d _ hd (ho _ rfl) rfl
theorem HM:ah Tryz.prog 56 (p1 (.lst (.st .item)) fun l=>⟨none,none,.fn 98 [.ptr 1 0],[(1,.box (.lst (.st .item) l none))]⟩):=
 bA (ee Tryz.func56) fun l _ _=>g0 sn a0 Tryz.func56 (Kd l)
end Go.AL.Seat
end
noncomputable section
namespace Go.AL.Seat
open Go Go.AL Go.Proofs Go.Shelf Go.Pd
variable [Tabs]
def Ni(t:Str):Bool:=!t.isEmpty&&decide (t.length<=15)&&t.all fun c=>decide (48<=c.toNat)&&decide (c.toNat<=57)
theorem Ma{t:Str}(h:Ni t=true):qA t:=by unfold Ni at h;simp only[NZ,Oa,O1,O9]at h;exact⟨fun e=>(by rw[e]at h;exact absurd h.1.1 (by decide)),h.1.2,h.2⟩
abbrev fbz(t:List (Nat×TR))(f:Func)(k:Nat):FB:=lZ t f k [] (fun _=>false) (fun _=>false) (fun _=>false) false
def qW:List (Nat×Pat):=
 [(201,p1 .str fun s=>.ret (.tup [.int .i32 ((kP s).1:Int),.int .i64 ((kP s).2:Int)])),
  (211,p2 .str (.int .u8) fun a c=>.ret (.int .i64 (IP a c))),
  (161,q2 .str .str (fun _ b=>decide (b=rh)) fun a _=>.str (nh a)),
  (209,q2 .str .str (fun a b=>decide (b=[45])&&decide (a.length<4294967281)) fun a _=>.tup [.str (jK a),.str (nN a),.bool (pR a)]),
  (86,q2 .str .str (fun a b=>decide (b=[46])&&decide (a.length<4294967281)) fun a _=>.lst .str (splitB 46 a) none),
  (213,q2 .str .str (fun _ b=>decide (b.length=1)) fun a b=>.bool (decide (b.getD 0 0∈a))),
  (210,q1 .str Ni fun t=>.tup [.int .i64 (nf t),.nilif]),
  (47,p1 .str fun s=>.ret (.bool (aX s))),(52,p1 .str fun s=>.ret (.bool (eG s)))]
theorem p9[SeatLaid]:bJ Tryz.prog (gF qW):=
 sc tN (sc vm (sc (Fj Ad fun _ _ h=>Xo h)
  (sc (Fj Ld fun _ _ h=>by rw[NZ]at h;exact⟨Xo h.1,Xo h.2⟩)
  (sc (Fj pT fun _ _ h=>by rw[NZ]at h;exact⟨Xo h.1,Xo h.2⟩)
  (sc (Fj y9 fun _ _ h=>Xo h) (sc (JA IY fun _ h=>Ma h)
  (sc jm (sc kj sn))))))))
end Go.AL.Seat
end
noncomputable section
namespace Go.AL.Seat
open Go Go.AL Go.Proofs
variable [Tabs]
def b8:List (Nat×TR):=[(3,r2),(9,r9),(47,r47),(24,r24),(63,r63),(300,GG),(45,r45),(4,r4),(38,r38),(97,r97),(65,r65),(5,r5),(26,r26),(32,r2),(43,r43),(41,r41),(31,r31),(61,r61),(94,r94),(49,r49),(59,r59),(54,r54),(100,r99),(22,r22),(39,r39),(155,Ly),(91,r91),(23,r23),(34,r34),(191,GF),(288,N6),(20,r20),(219,r1),(50,r1),(113,r1),(299,GG),(190,GF),(58,r58),(37,r37),(40,r40),(62,r62),(64,r64),(99,r99),(96,r96),(93,r93),(42,r42),(46,r46),(48,r48),(33,r33),(25,r25)]
theorem Ks:aR Tryz.prog b8:=by
 unfold b8
 repeat (first|exact aR.nil|refine aR.cons tk ?_)
end Go.AL.Seat
end
noncomputable section
namespace Go.AL.Seat
open Go Go.AL Go.Proofs
set_option maxRecDepth 1000000
variable [Tabs]
def Nj(f:Nat):List (Option Nat):=if Nat.beq f 121||Nat.beq f 122 then[some 2]else if Nat.beq f 68||(Nat.beq f 69||(Nat.beq f 73||(Nat.beq f 74||(Nat.beq f 75||Nat.beq f 126))))then[some 4]else if Nat.beq f 57||Nat.beq f 61 then[some 1004]else[]
def Nk(f:Nat):Bool:=false
def uM:List (Nat×FB):=(14,fbz b8 Tryz.f14 63)::(15,fbz b8 Tryz.f15 31023)::(16,fbz b8 Tryz.f16 16838839)::(33,fbz b8 Tryz.f33 274877939399)::(34,fbz b8 Tryz.f34 33571891)::(17,fbz b8 Tryz.f17 4319327)::(35,fbz b8 Tryz.f35 33571891)::(21,fbz b8 Tryz.f21 340292770534375364823452943443732465007)::(36,fbz b8 Tryz.f36 503324715)::(37,fbz b8 Tryz.f37 4125181903019)::(39,fbz b8 Tryz.f39 7)::(40,lZ b8 Tryz.f40 31 [] (fun _=>false) (fun _=>false) (fun d=>Nat.beq d 9||Nat.beq d 14||Nat.beq d 16) false)::(43,fbz b8 Tryz.f43 27)::(44,fbz b8 Tryz.f44 30767)::(46,fbz b8 Tryz.f46 15)::(45,fbz b8 Tryz.f45 19)::(48,fbz b8 Tryz.f48 9316337836119)::(49,fbz b8 Tryz.f49 8392597)::(50,fbz b8 Tryz.f50 659706875863)::(51,fbz b8 Tryz.f51 633826206808479411720232632383)::(53,fbz b8 Tryz.f53 13)::(78,fbz b8 Tryz.f78 8363)::(42,fbz b8 Tryz.f42 604275)::(41,fbz b8 Tryz.f41 17389)::(80,fbz b8 Tryz.f80 66491)::(82,fbz b8 Tryz.f82 66483)::(87,fbz b8 Tryz.f87 18014398524686365)::(88,fbz b8 Tryz.f88 5469)::(89,lZ b8 Tryz.f89 36909250894291276799 [] (fun _=>false) (fun _=>false) (fun d=>Nat.beq d 17||Nat.beq d 22||Nat.beq d 27||Nat.beq d 29||Nat.beq d 43||Nat.beq d 46||Nat.beq d 63) false)::(29,fbz b8 Tryz.f29 299063)::(90,fbz b8 Tryz.f90 7)::(91,fbz b8 Tryz.f91 74783)::(94,fbz b8 Tryz.f94 7)::(79,fbz b8 Tryz.f79 5)::(137,fbz b8 Tryz.f137 5)::(138,fbz b8 Tryz.f138 604275)::(139,fbz b8 Tryz.f139 2623603)::(65,fbz b8 Tryz.f65 31)::(30,fbz b8 Tryz.f30 2159703)::(66,fbz b8 Tryz.f66 10141204803006463002229839257615)::(140,fbz b8 Tryz.f140 19)::(141,fbz b8 Tryz.f141 7)::(142,fbz b8 Tryz.f142 2223863)::(143,fbz b8 Tryz.f143 7)::(146,fbz b8 Tryz.f146 16883)::(185,fbz b8 Tryz.f185 5)::(186,fbz b8 Tryz.f186 19)::(116,fbz b8 Tryz.f116 33071)::(118,fbz b8 Tryz.f118 17)::(117,fbz b8 Tryz.f117 246479)::(119,fbz b8 Tryz.f119 4444215)::(120,fbz b8 Tryz.f120 5)::(187,fbz b8 Tryz.f187 66483)::(188,fbz b8 Tryz.f188 3537148372723500476506894142080440715070649430595550180525943565456506895)::(189,fbz b8 Tryz.f189 27)::(233,fbz b8 Tryz.f233 7)::(234,fbz b8 Tryz.f234 27)::(235,fbz b8 Tryz.f235 7)::(236,fbz b8 Tryz.f236 2098133)::(237,fbz b8 Tryz.f237 13)::(238,fbz b8 Tryz.f238 27)::(240,fbz b8 Tryz.f240 15)::(239,fbz b8 Tryz.f239 19)::(272,fbz b8 Tryz.f272 15)::(273,fbz b8 Tryz.f273 7)::(276,fbz b8 Tryz.f276 11)::(275,fbz b8 Tryz.f275 19)::(277,fbz b8 Tryz.f277 66483)::(302,fbz b8 Tryz.f302 66483)::[]
theorem BV:iP Tryz.prog uM:=by
 unfold uM
 repeat (first|exact iP.nil|refine iP.cons (by kernel_rfl) (by kernel_rfl) ?_)
end Go.AL.Seat
end
noncomputable section
namespace Go.AL.Seat
open Go Go.AL Go.Proofs
variable [Tabs]
def aw:List (Nat×TR):=[(3,r2),(9,r9),(63,r63),(47,r47),(149,r149),(24,r24),(253,r253),(248,r248),(5,r5),(300,GG),(38,r38),(34,r34),(146,Lv),(45,r45),(4,r4),(198,Lx),(61,r61),(196,Lw),(32,r2),(251,r251),(139,r139),(26,r26),(155,Ly),(194,r194),(144,GD),(65,r65),(39,r39),(41,r41),(1,r1),(59,r59),(22,r22),(288,N6),(247,r247),(147,r1),(23,r23),(283,r283),(21,r21),(191,GF),(219,r1),(50,r1),(113,r1),(20,r20),(190,GF),(299,GG),(250,GD),(252,r252),(58,r58),(46,r46),(62,r62),(64,r64),(37,r37),(40,r40),(197,Lx),(195,Lw),(148,r148),(145,Lv),(143,GD),(33,r33),(25,r25)]
theorem BW:aR Tryz.prog aw:=by
 unfold aw
 repeat (first|exact aR.nil|refine aR.cons tk ?_)
end Go.AL.Seat
end
noncomputable section
namespace Go.AL.Seat
open Go Go.AL Go.Proofs
set_option maxRecDepth 1000000
variable [Tabs]
def Kt(f:Nat):List (Option Nat):=if Nat.beq f 121||Nat.beq f 122 then[some 2]else if Nat.beq f 68||(Nat.beq f 69||(Nat.beq f 73||(Nat.beq f 74||(Nat.beq f 75||Nat.beq f 126))))then[some 4]else if Nat.beq f 57||Nat.beq f 61 then[some 1004]else[]
def Ku(f:Nat):Bool:=false
def pa:List (Nat×FB):=(32,fbz aw Tryz.f32 288511851128455421)::(67,fbz aw Tryz.f67 77975715369647181664879229)::(68,fbz aw Tryz.f68 259)::(69,fbz aw Tryz.f69 65587)::(70,fbz aw Tryz.f70 19380592045697041145266237)::(71,fbz aw Tryz.f71 38685626517024445242019965)::(72,fbz aw Tryz.f72 1180591655902890688517)::(73,fbz aw Tryz.f73 5)::(74,fbz aw Tryz.f74 263)::(75,fbz aw Tryz.f75 5)::(121,fbz aw Tryz.f121 65555)::(122,fbz aw Tryz.f122 4294967347)::(123,fbz aw Tryz.f123 5)::(124,fbz aw Tryz.f124 8388935)::(125,lZ aw Tryz.f125 87112288527988523651034566703108870643455 [] (fun _=>false) (fun _=>false) (fun d=>Nat.beq d 21) false)::(126,fbz aw Tryz.f126 67108915)::(127,fbz aw Tryz.f127 19)::(128,fbz aw Tryz.f128 8388807)::(129,fbz aw Tryz.f129 13)::(130,fbz aw Tryz.f130 2361185498182472704253)::(50,fbz aw Tryz.f50 659706875863)::(131,fbz aw Tryz.f131 9016029707634675)::(132,fbz aw Tryz.f132 134250995)::(156,fbz aw Tryz.f156 549890048253)::(157,fbz aw Tryz.f157 71)::(158,fbz aw Tryz.f158 79)::(84,fbz aw Tryz.f84 5)::(92,fbz aw Tryz.f92 5)::(135,fbz aw Tryz.f135 5)::(85,fbz aw Tryz.f85 29)::(159,fbz aw Tryz.f159 5)::(160,fbz aw Tryz.f160 5)::(162,fbz aw Tryz.f162 151115799509488183025661)::(163,fbz aw Tryz.f163 618970019647202533975261693)::(164,fbz aw Tryz.f164 29)::(165,fbz aw Tryz.f165 19)::(166,fbz aw Tryz.f166 66483)::(167,fbz aw Tryz.f167 4195343)::(89,lZ aw Tryz.f89 36909250894291276799 [] (fun _=>false) (fun _=>false) (fun d=>Nat.beq d 17||Nat.beq d 22||Nat.beq d 27||Nat.beq d 29||Nat.beq d 43||Nat.beq d 46||Nat.beq d 63) false)::(168,fbz aw Tryz.f168 33816627)::(169,fbz aw Tryz.f169 5)::(170,fbz aw Tryz.f170 268439557)::(171,fbz aw Tryz.f171 81129648086015544455969055506495)::(91,fbz aw Tryz.f91 74783)::(172,fbz aw Tryz.f172 263)::(173,fbz aw Tryz.f173 2228285)::(137,fbz aw Tryz.f137 5)::(48,fbz aw Tryz.f48 9316337836119)::(212,fbz aw Tryz.f212 5)::(214,fbz aw Tryz.f214 66483)::(138,fbz aw Tryz.f138 604275)::(41,fbz aw Tryz.f41 17389)::(139,fbz aw Tryz.f139 2623603)::(215,lZ aw Tryz.f215 3 [] (fun d=>Nat.beq d 8) (fun _=>false) (fun _=>false) false)::(216,lZ aw Tryz.f216 7 [] (fun d=>Nat.beq d 15) (fun _=>false) (fun _=>false) false)::(218,fbz aw Tryz.f218 275)::(217,fbz aw Tryz.f217 131)::(220,fbz aw Tryz.f220 7)::(219,fbz aw Tryz.f219 271375)::(222,fbz aw Tryz.f222 32819)::(223,fbz aw Tryz.f223 15)::(224,fbz aw Tryz.f224 17180524607)::(142,fbz aw Tryz.f142 2223863)::(143,fbz aw Tryz.f143 7)::(225,lZ aw Tryz.f225 324677087359430077278579446644799 [] (fun d=>Nat.beq d 129) (fun _=>false) (fun _=>false) false)::(29,fbz aw Tryz.f29 299063)::(87,fbz aw Tryz.f87 18014398524686365)::(185,fbz aw Tryz.f185 5)::(186,fbz aw Tryz.f186 19)::(261,fbz aw Tryz.f261 51)::(221,fbz aw Tryz.f221 65587)::(262,fbz aw Tryz.f262 23945973599159813139139346461134680183357916012085311)::(263,lZ aw Tryz.f263 3 [] (fun d=>Nat.beq d 8) (fun _=>false) (fun _=>false) false)::(188,fbz aw Tryz.f188 3537148372723500476506894142080440715070649430595550180525943565456506895)::(189,fbz aw Tryz.f189 27)::(264,lZ aw Tryz.f264 7 [] (fun d=>Nat.beq d 21) (fun _=>false) (fun _=>false) false)::(266,fbz aw Tryz.f266 149971)::(267,lZ aw Tryz.f267 3 [] (fun d=>Nat.beq d 8) (fun _=>false) (fun _=>false) false)::(65,fbz aw Tryz.f65 31)::(30,fbz aw Tryz.f30 2159703)::(66,fbz aw Tryz.f66 10141204803006463002229839257615)::(298,lZ aw Tryz.f298 3 [] (fun d=>Nat.beq d 23) (fun _=>false) (fun _=>false) false)::(299,fbz aw Tryz.f299 13)::(233,fbz aw Tryz.f233 7)::(234,fbz aw Tryz.f234 27)::(235,fbz aw Tryz.f235 7)::(236,fbz aw Tryz.f236 2098133)::(237,fbz aw Tryz.f237 13)::(238,fbz aw Tryz.f238 27)::(240,fbz aw Tryz.f240 15)::(239,fbz aw Tryz.f239 19)::(265,fbz aw Tryz.f265 5)::(116,fbz aw Tryz.f116 33071)::(118,fbz aw Tryz.f118 17)::(117,fbz aw Tryz.f117 246479)::(119,fbz aw Tryz.f119 4444215)::(120,fbz aw Tryz.f120 5)::(272,fbz aw Tryz.f272 15)::(140,fbz aw Tryz.f140 19)::(273,fbz aw Tryz.f273 7)::(94,fbz aw Tryz.f94 7)::(276,fbz aw Tryz.f276 11)::(275,fbz aw Tryz.f275 19)::(277,fbz aw Tryz.f277 66483)::(187,fbz aw Tryz.f187 66483)::(146,fbz aw Tryz.f146 16883)::(302,fbz aw Tryz.f302 66483)::[]
theorem qX:iP Tryz.prog pa:=by
 unfold pa
 repeat (first|exact iP.nil|refine iP.cons (by kernel_rfl) (by kernel_rfl) ?_)
end Go.AL.Seat
end
noncomputable section
namespace Go.AL.Seat
open Go Go.AL Go.Proofs Go.Pd
set_option maxRecDepth 1000000
def awS:Str:=[109,111,100,117,108,101,32,112,32,105,109,112,111,114,116,32,113,32,112,105,110,32,49,46,48,46,48,32,114,97,110,103,101,32,42,32,105,109,112,111,114,116,32,122,32,112,105,110,32,49,46,48,46,48,32,114,97,110,103,101,32,42,32,108,101,116,32,102,32,61,32,113,47,103,40,49,41,32,101,120,112,111,114,116,32,40,102,41]
def awL:AV:=(.tup [(.lst (.st .token) [⟨5,[109,111,100,117,108,101],0⟩,⟨1,[112],7⟩,⟨5,[105,109,112,111,114,116],9⟩,⟨1,[113],16⟩,⟨5,[112,105,110],18⟩,⟨7,[49,46,48,46,48],22⟩,⟨5,[114,97,110,103,101],28⟩,⟨6,[42],34⟩,⟨5,[105,109,112,111,114,116],36⟩,⟨1,[122],43⟩,⟨5,[112,105,110],45⟩,⟨7,[49,46,48,46,48],49⟩,⟨5,[114,97,110,103,101],55⟩,⟨6,[42],61⟩,⟨5,[108,101,116],63⟩,⟨1,[102],67⟩,⟨6,[61],69⟩,⟨1,[113],71⟩,⟨6,[47],72⟩,⟨1,[103],73⟩,⟨6,[40],74⟩,⟨3,[49],75⟩,⟨6,[41],76⟩,⟨5,[101,120,112,111,114,116],78⟩,⟨6,[40],85⟩,⟨1,[102],86⟩,⟨6,[41],87⟩,⟨0,[],88⟩] none),(.agg [(.int .i64 0),(.int .i64 0)])])
def awV:AV:=(.tup [(.agg [(.str [112]),(.lst (.st .imp) [⟨[113],⟨1,0,0,[]⟩,[],9⟩,⟨[122],⟨1,0,0,[]⟩,[],36⟩] none),(.lst (.st .decl) [⟨3,[102],⟨0,[],[],[],[]⟩,⟨7,[],[],0,[],[],[],[⟨5,[113],[103],0,[],[],[],[],71⟩,⟨1,[],[],1,[],[],[],[],75⟩],71⟩,63⟩] none),(.lst .str [[102]] none),(.int .i64 78)]),(.agg [(.int .i64 0),(.int .i64 0)])])
variable [Tabs] [SeatLaid]
theorem NR:ak Tryz.prog 67 [.str awS] [] (.ret awL):=mL (n:=100) mixed BW p9 qX (by kernel_rfl:AI aw pa Ku Kt 5000 (gF qW) 100 67 [.str awS] []=some ⟨none,none,awL,[]⟩)
def Kv:List (Nat×Pat):=(67,Fk [.str awS] awL)::qW
theorem HN:bJ Tryz.prog (gF Kv):=sc (Fl (ee Tryz.func67) NR) p9
theorem NS:ak Tryz.prog 32 [.str awS] [] (.ret awV):=mL (n:=100) mixed BW HN qX (by kernel_rfl:AI aw pa Ku Kt 5000 (gF Kv) 100 32 [.str awS] []=some ⟨none,none,awV,[]⟩)
end Go.AL.Seat
end
noncomputable section
namespace Go.AL
variable [Tabs]
section
variable {P:Program} {ops:Array Oper} {Q:Exit->Act->World->Prop}
theorem Kw{l n:Nat}{f:FuncId}{args:Array Value}{w:World}{R:Ending->World->Prop}(h:CallsIn Fence.wide n P f args w R):CallsIn (Fence.wide.inRound l) n P f args w R:=h
theorem Mb{l n i:Nat}{K K':Act->World->Prop}{a:Act}{w:World}(hd:∀o∈ops.toList,∀c,o.op≠.defer c)(hL:¬LetsOut Q)(hK:∀a w,K a w->K' a w)
 (h:wpOp P ops Q i K a w):wpOpIn (Fence.wide.inRound l) n P ops Q i K' a w:=by
 unfold wpOp at h;unfold wpOpIn
 cases ho:ops[i]? with
 |none=>simp only[ho]at h⊢;exact hK _ _ h
 |some o=>
  have hm:o∈ops.toList:=Ot (by rw[Oh];exact ho);simp only[ho]at h⊢;split
  ·rename_i hw;simp only[hw,P1]at h;rcases h with h|h
   case inr=>exact absurd h.2 hL
   refine⟨fun _ _=>trivial,?_⟩;rw[Oper.semAt_eq _ _ _ (hd o hm)];unfold Oper.wp at h;have hn:∀q:Prop,((Fence.wide.inRound l).depth.isSome=true->q):=fun q h=>by cases h
   generalize (execOp a.eval o).run P w=r at h⊢
   cases r with
   |ok x w'=>
    cases x<;>simp only[Oper.upon,Oper.uponIn]at h⊢<;>
     first
      |exact hK _ _ h
      |exact⟨hn _,Kw ((callsIn_wide.2 h).mono fun e w'' he=>by cases e<;>first|exact hK _ _ he|exact he)⟩
      |exact⟨hn _,fun c cs hr=>let ⟨v,w',q,st⟩:=h c cs;⟨v,w',hK _ _ q,stepsIn_wide.2 st⟩⟩
      |exact h.elim
   |halt x w'=>cases x<;>simp only[Oper.upon,Oper.uponIn]at h⊢<;>exact h
  ·rename_i hw;simp only[hw]at h;exact⟨fun _ _=>trivial,hK _ _ h⟩
theorem BX{l n:Nat}(hd:∀o∈ops.toList,∀c,o.op≠.defer c)(hL:¬LetsOut Q):∀(fuel:Nat)(listed:Array Bool)(a:Act)(w:World),
  wpAny P .any ops Q fuel listed a w->wpAnyIn (Fence.wide.inRound l) n P .any ops Q fuel listed a w
 |0,listed,a,w,h=>h
 |fuel+1,listed,a,w,h=>⟨h.1,fun i hi=>Mb hd hL (fun a w=>BX hd hL fuel _ a w) (h.2 i hi)⟩
end
section
variable {P:Program} {C:Cfg} {F:Fr} {ops:Array Oper}
theorem Mc{F:Fr}{Q:SX->St->Prop}:¬LetsOut (QL F Q):=fun⟨a,w,x,s,Ω,h,_⟩=>by
 cases x<;>first|(obtain⟨v,h,_⟩:=h;cases h)|cases h
theorem HO(hm:P.follows .mixedOrders=true)(hT:aR P C.tbl)(hS:bJ P C.spec)(keep:List Nat){id l n:Nat}{s:St}{Q:SX->St->Prop}{a:Act}{Ω:Om}
 (hdst:∀(o:Oper),o∈ops.toList->∀d,o.dst=some d->d<F.n)(hd:∀o∈ops.toList,∀c,o.op≠.defer c)
 (h:kq C keep ops true s Q)(hh:Holds F s.abs a Ω):(Code.region id ops true).wpIn (Fence.wide.inRound l) n P (QL F Q) a Ω.w:=by
 refine wpIn_region_any hm (BX hd Mc _ _ _ _ ?_);unfold kq at h
 have key:∀s' fs,(fq (trim keep s') fun s'=>if true=true then(if dB ops.toList fs=true then Q .normal s' else False)else Q .normal s')->
   dB ops.toList fs=true/\Q .normal (trim keep s'):=by
  intro s' fs hk;simp only[cM,P1]at hk;rcases Q2 (dB ops.toList fs=true)with k|k
  ·rw[O3 k]at hk;exact⟨k,hk⟩
  ·rw[O0 k]at hk;exact hk.elim
 refine tg hT hS hdst h (fun s' fs hk=>let ⟨s2,h2⟩:=mD _ hk;(key s2 fs h2).1) hh (fun s' fs a' Ω' hk h'=>
   let ⟨s2,Ω2,g1,g2,g3⟩:=nD h' hk
   ⟨.normal,trim keep s2,Ω2,rfl,g1,g2.trim keep,(key s2 fs g3).2⟩)
  (fun pv s' a' Ω' v hk h' hv=>?_)
 simp only[cM,forceV_eq]at hk;exact⟨.pan pv,s',Ω',⟨v,rfl,hv⟩,rfl,h',hk⟩
end
theorem bn.blkW{Ω:Om}{own:Nat->Nat->Prop}{id:Nat}{ob:SObj}(hs:bn Ω own id ob){b o:Nat}{c:CObj}(hc:Ω.e id=some c)(hb:occ c b o):b<Ω.w.heap.size:=by
  cases ob with
  |box x=>
   obtain⟨b',off,he,hh⟩:=hs;rw[he]at hc;simp only[Xs]at hc;subst hc;obtain⟨rfl,h1,h2⟩:=hb;have hj:o-off<(ae x).length:=by omega
   obtain⟨_,_,_,v,hv,_⟩:=hh (o-off) _ (NY hj);exact aC hv
  |tail τ n=>obtain⟨base,cap,he,_,_,_,hb'⟩:=hs;rw[he]at hc;simp only[Xs]at hc;subst hc;obtain⟨_,vs,ty,fz,hh,_⟩:=hb' b hb;exact aI hh
  |map κ τ m=>obtain⟨r,he,_,es,clock,hh,_⟩:=hs;rw[he]at hc;simp only[Xs]at hc;subst hc;have:b=r:=hb;subst this;exact aI hh
  |bld t u l=>obtain⟨b0,g,he,_,hh⟩:=hs;rw[he]at hc;simp only[Xs]at hc;subst hc;exact hh.lt hb
  |tailp τ n x=>
   obtain⟨b0,cap,he,_,_,_,⟨vs,ty,fz,hh,_⟩,_⟩:=hs;rw[he]at hc;simp only[Xs]at hc;subst hc;have:b0=b:=by simpa[occ]using hb
   subst this;exact aI hh
  |grow τ n xs=>obtain⟨base,cap,he,_,_,_,hb'⟩:=hs;rw[he]at hc;simp only[Xs]at hc;subst hc;obtain⟨_,⟨vs,ty,fz,hh,_⟩,_⟩:=hb' b hb;exact aI hh
theorem After.owns{w w1:World}{pub bW:Nat->Nat->Prop}{e e1:Nat->Option CObj}{B:Nat->Option SObj}(h:After w pub e B w1 bW e1){b o:Nat}(ho:gM e1 b o):w.heap.size<=b∨gM e b o:=by
 obtain⟨id,c,hc,hoc⟩:=ho
 cases hB:B id with
 |none=>rw[h.dom id hB]at hc;cases hc
 |some ob=>exact(h.slots id ob hB).owns hc hoc
theorem After.trans{w w1 w2:World}{pub bW pub2:Nat->Nat->Prop}{e e1 e2:Nat->Option CObj}{B B':Nat->Option SObj}(h:After w pub e B w1 bW e1)(k:After w1 bW e1 B' w2 pub2 e2) :
  After w pub e B' w2 pub2 e2:=by
 have hs:=h.size
 have no:∀{b o},b<w.heap.size->¬gM e b o->¬gM e1 b o:=fun hb hn ho=>by
  rcases h.owns ho with q|q
  ·omega
  ·exact hn q
 have up:∀{b o},(w1.heap.size<=b∨gM e1 b o)->w.heap.size<=b∨gM e b o:=fun ho=>by
  rcases ho with q|q
  ·exact .inl (OT hs q)
  ·exact h.owns q
 refine⟨k.os.trans h.os,k.tape.trans h.tape,k.output.trans h.output,OT hs k.size,fun b hb hn=>?_,fun b o hb hn=>?_,fun b hb hn=>?_,h.ext.trans k.ext,fun b o hp=>?_,k.ok,fun id o ho=>?_,k.dom,k.inj⟩
 ·exact(k.block b (by omega) fun o=>no hb (hn o)).trans (h.block b hb hn)
 ·exact(k.cell b o (by omega) (no hb hn)).trans (h.cell b o hb hn)
 ·obtain⟨a1,a2⟩:=h.kind b hb hn
  obtain⟨b1,b2⟩:=k.kind b (by omega) fun ha=>hn fun o=>by
   rcases h.owns (ha o)with q|q
   ·omega
   ·exact q
  exact⟨b1.trans a1,fun o=>(b2 o).trans (a2 o)⟩
 ·rcases k.fresh b o hp with q|q
  ·exact h.fresh b o q
  ·exact .inr (up q)
 ·exact(k.slots id o ho).own_of fun c b o' hc hoc=>up ((k.slots id o ho).owns hc hoc)
theorem After.post{w w1 w2:World}{pub bW:Nat->Nat->Prop}{e e1:Nat->Option CObj}{B:Nat->Option SObj}(h:After w pub e B w1 bW e1)
 (hos:w2.os=w1.os)(htape:w2.tape=w1.tape)(hout:w2.output=w1.output)(hsize:w1.heap.size<=w2.heap.size)
 (hb:∀b,b<w1.heap.size->w2.heap[b]?=w1.heap[b]?∨(w.heap.size<=b/\(∀o,¬gM e1 b o)/\∀o,¬bW b o)):After w pub e B w2 bW e1:=by
 have hs:=h.size;have old:∀{b},b<w.heap.size->w2.heap[b]?=w1.heap[b]?:=fun hlt=>(hb _ (by omega)).resolve_right fun q=>by omega
 have pubc:∀b o,bW b o->w2.cell? ⟨b,o,none⟩=w1.cell? ⟨b,o,none⟩:=fun b o hp=>by obtain⟨v,hv⟩:=h.ok b o hp;exact ai ((hb b (aC hv)).resolve_right fun q=>q.2.2 o hp) o
 have hx:Ext ⟨e1,w1,bW⟩ ⟨e1,w2,bW⟩:=⟨fun _ c hc=>⟨c,hc,CLe.refl c⟩,fun _ _ p=>p,pubc⟩
 refine⟨hos.trans h.os,htape.trans h.tape,hout.trans h.output,OT hs hsize,fun b hlt hn=>(old hlt).trans (h.block b hlt hn),fun b o hlt hn=>(ai (old hlt) o).trans (h.cell b o hlt hn),
  fun b hlt hn=>?_,h.ext.trans hx,h.fresh,fun b o hp=>?_,fun id o ho=>?_,h.dom,h.inj⟩
 ·obtain⟨a1,a2⟩:=h.kind b hlt hn;exact⟨(aT (old hlt)).trans a1,fun o=>(aK (old hlt) o).trans (a2 o)⟩
 ·rw[pubc b o hp];exact h.ok b o hp
 ·refine(h.slots id o ho).keep hx rfl fun c hc=>jV.of_blocks fun b o' hoc=>⟨?_,fun _ p=>p⟩;rcases O5 b w1.heap.size with q|q
  ·exact(hb b q).resolve_right fun r=>r.2.1 o' ⟨id,c,hc,hoc⟩
  ·exact absurd ((h.slots id o ho).blkW hc hoc) (by show ¬b<w1.heap.size;omega)
theorem ec.after{w w1:World}{pub bW:Nat->Nat->Prop}{e e1:Nat->Option CObj}{B:Nat->Option SObj}(ht:ec w pub e)(h:After w pub e B w1 bW e1):ec w1 bW e1:=by
 refine⟨fun b o v hv=>?_,fun b x hx=>?_⟩
 ·obtain⟨h1,h2⟩:=ht.1 b o v hv;exact⟨h.ext.pub b o h1,(h.ext.cell b o h1).trans h2⟩
 ·obtain⟨h1,h2⟩:=ht.2 b x hx;have hlt:=aI h1;refine⟨(h.block b hlt h2).trans h1,fun o ho=>?_⟩;rcases h.owns ho with q|q
  ·omega
  ·exact h2 o q
theorem After.holds{w w1:World}{pub bW:Nat->Nat->Prop}{e e1:Nat->Option CObj}{B:List (Nat×SObj)}(h:After w pub e (aj B) w1 bW e1)(hl:∀id c,e id=some c->bd id=true)(ht:ec w pub e) :
  Holds ⟨w,pub,0,e,hl,[],ht⟩ (St.abs ⟨[],B⟩) {tmps:=#[],defers:=[]} ⟨e1,w1,bW⟩:=
 ⟨fun i=>.undef _,rfl,rfl,h.slots,h.dom,h.inj,h.ok,h.ext.e,⟨h.os,h.tape,h.output,h.size,h.block,h.cell,h.kind,fun b o hp=>h.fresh b o hp,h.ext.pub,h.ext.cell⟩⟩
theorem After.drop{w w1:World}{pub bW:Nat->Nat->Prop}{e e1:Nat->Option CObj}{B B':List (Nat×SObj)}(h:After w pub e (aj B) w1 bW e1)(hl:∀id c,e id=some c->bd id=true)(ht:ec w pub e){A:List Nat}
 (hB:∀i,i∈A->aj B' i=none)(hB':∀i,i∉A->aj B' i=aj B i)(hn:bV A ⟨[],B'⟩=true)(hA:∀i∈A,e i=none) :
  After w pub e (aj B') w1 bW (fun i=>if i∈A then none else e1 i):=
 fB (T:=fun _=>.undef) (Holds.forget1 (s':=⟨[],B'⟩) (h.holds hl ht) (fun i=>.inl rfl) hB hB' hn hA)
theorem After.lay{w w1:World}{pub bW:Nat->Nat->Prop}{e e1:Nat->Option CObj}{B:List (Nat×SObj)}(h:After w pub e (aj B) w1 bW e1){id b off:Nat}{c:AV}(hid:aj B id=none)
 (hc:∀(j:Nat)(c':AV),(ae c)[j]?=some c'->(w.heap.size<=b∨gM e b (off+j))/\¬gM e1 b (off+j)/\¬bW b (off+j)/\w1.frozen? ⟨b,off+j,none⟩=false/\∃v,w1.cell? ⟨b,off+j,none⟩=some v/\V ⟨e1,w1,bW⟩ c' v) :
  After w pub e (aj ((id,.box c)::B)) w1 bW (fun i=>if i=id then some (.box b off (ae c).length)else e1 i):=by
 have hn:=h.dom id hid
 have hx:Ext ⟨e1,w1,bW⟩ ⟨fun i=>if i=id then some (.box b off (ae c).length)else e1 i,w1,bW⟩:=by
  refine⟨fun i c' hi=>⟨c',?_,CLe.refl c'⟩,fun _ _ p=>p,fun _ _ _=>rfl⟩;have:i≠id:=fun e=>by subst e;have hi:e1 i=some c':=hi;rw[hn]at hi;cases hi
  simp only[O0 this];exact hi
 have bg:∀i,aj ((id,SObj.box c)::B) i=if i=id then some (.box c)else aj B i:=fun i=>by
  by_cases hi:i=id
  ·subst hi;simp[aj]
  ·have h1:Nat.beq i id=false:=by cases q:Nat.beq i id with|false=>rfl|true=>exact absurd (On q) hi
   have h2:Nat.beq id i=false:=by cases q:Nat.beq id i with|false=>rfl|true=>exact absurd (On q) (fun e=>hi e.symm)
   simp[aj,hi,h1,h2]
 have free:∀i ci o,e1 i=some ci->occ ci b o->off<=o->o<off+(ae c).length->False:=fun i ci o hi ho h1 h2=>by
  have hj:o-off<(ae c).length:=by omega
  have:=(hc (o-off) _ (NY hj)).2.1;rw[show off+(o-off)=o by omega]at this;exact this ⟨i,ci,hi,ho⟩
 refine⟨h.os,h.tape,h.output,h.size,h.block,h.cell,h.kind,h.ext.trans hx,h.fresh,h.ok,fun i o ho=>?_,fun i hi=>?_,fun i j ci cj b' o hi hj hbi hbj=>?_⟩
 ·rw[bg]at ho;by_cases hi:i=id
  ·subst hi;simp only[P1,Xs]at ho;subst ho;refine⟨b,off,by simp,fun j c' hj=>?_⟩;obtain⟨k0,_,k2,k3,v,k4,k5⟩:=hc j c' hj;exact⟨k0,k2,k3,v,k4,k5.ext hx⟩
  ·rw[O0 hi]at ho;exact(h.slots i o ho).keep hx (by simp[hi]) (fun _ _=>jV.of_blocks fun _ _ _=>⟨rfl,fun _ p=>p⟩)
 ·rw[bg]at hi;by_cases hi':i=id
  ·rw[O3 hi']at hi;cases hi
  ·rw[O0 hi']at hi;simp only[O0 hi'];exact h.dom i hi
 ·by_cases hi':i=id
  ·by_cases hj':j=id
   ·rw[hi',hj']
   ·simp only[O3 hi',Xs]at hi;simp only[O0 hj']at hj;subst hi;obtain⟨rfl,h1,h2⟩:=hbi;exact(free j cj o hj hbj h1 h2).elim
  ·by_cases hj':j=id
   ·simp only[O3 hj',Xs]at hj;simp only[O0 hi']at hi;subst hj;obtain⟨rfl,h1,h2⟩:=hbj;exact(free i ci o hi hbi h1 h2).elim
   ·simp only[O0 hi']at hi;simp only[O0 hj']at hj;exact h.inj i j ci cj b' o hi hj hbi hbj
theorem After.move{w w1:World}{pub bW:Nat->Nat->Prop}{e e1:Nat->Option CObj}{id id':Nat}{c:AV}{B:List (Nat×SObj)}(h:After w pub e (aj ((id,.box c)::B)) w1 bW e1)
 (hl:∀id c,e id=some c->bd id=true)(ht:ec w pub e)(hid:bd id=false)(hB:aj B id=none)(hB':aj B id'=none)(hn:bV [id] ⟨[],B⟩=true)(hc:∀i∈ids c,i≠id)(hp:∀c'∈ae c,∀i∈ids c',i∈ids c) :
  ∃b off,e1 id=some (.box b off (ae c).length)/\After w pub e (aj ((id',.box c)::B)) w1 bW (fun i=>if i=id' then some (.box b off (ae c).length)else if i∈[id]then none else e1 i):=by
 have b0:aj ((id,SObj.box c)::B) id=some (.box c):=by simp[aj]
 have h1:=h.drop (B':=B) (A:=[id]) hl ht (fun i hi=>by rw[OH.1 hi];exact hB) (fun i hi=>by
   have hi:i≠id:=fun q=>hi (OH.2 q);have h1:Nat.beq i id=false:=by cases q:Nat.beq i id with|false=>rfl|true=>exact absurd (On q) hi
   have h2:Nat.beq id i=false:=by cases q:Nat.beq id i with|false=>rfl|true=>exact absurd (On q) (fun e=>hi e.symm)
   simp[aj,h1,h2]) hn (fun i hi=>by
   rw[OH.1 hi]
   cases q:e id with
   |none=>rfl
   |some c'=>have:=hl id c' q;rw[hid]at this;cases this)
 obtain⟨b,off,he,hs⟩:=h.slots id _ b0;have he:e1 id=some (.box b off (ae c).length):=he;refine⟨b,off,he,h1.lay hB' fun j c' hj=>?_⟩;obtain⟨k1,k2,k3,v,k4,k5⟩:=hs j c' hj;refine⟨k1,fun⟨i,ci,hi,ho⟩=>?_,k2,k3,v,k4,k5.agree fun i hi=>O0 fun q=>?_⟩
 ·by_cases q:i∈[id]
  ·simp only[O3 q]at hi;cases hi
  ·simp only[O0 q]at hi
   have hj':j<(ae c).length:=by
    rcases O5 j (ae c).length with k|k
    ·exact k
    ·rw[O2 k]at hj;cases hj
   exact q (OH.2 (h.inj i id ci _ b (off+j) hi he ho ⟨rfl,by omega,by omega⟩))
 ·exact hc i (hp c' (Ot hj) i hi) (OH.1 q)
theorem After.enter{w w1:World}{pub bW:Nat->Nat->Prop}{e e1:Nat->Option CObj}{B:List (Nat×SObj)}(h:After w pub e (aj B) w1 bW e1)(hl:∀id c,e1 id=some c->bd id=true)(ht:ec w1 bW e1)
 {t:List (Nat×AV)}{tmps:Array Value}(hv:∀i,V ⟨e1,w1,bW⟩ (aZ t i) (tmps.getD i undef)) :
  Holds ⟨w1,bW,tmps.size,e1,hl,[],ht⟩ (St.abs ⟨t,B⟩) {tmps,defers:=[]} ⟨e1,w1,bW⟩:=
 ⟨hv,rfl,rfl,fun id o ho=>(h.slots id o ho).own_of fun c b o' hc hoc=>.inr ⟨id,c,hc,hoc⟩,h.dom,h.inj,h.ok,fun id c hc=>⟨c,hc,CLe.refl c⟩,
  ⟨rfl,rfl,rfl,Od _,fun _ _ _=>rfl,fun _ _ _ _=>rfl,fun _ _ _=>⟨rfl,fun _=>rfl⟩,fun _ _ h=>.inl h,fun _ _ h=>h,fun _ _ _=>rfl⟩⟩
theorem After.blk{w w1:World}{pub bW:Nat->Nat->Prop}{e e1:Nat->Option CObj}{B:Nat->Option SObj}(h:After w pub e B w1 bW e1){b o:Nat}(ho:gM e1 b o):b<w1.heap.size:=by
 obtain⟨id,c,hc,hoc⟩:=ho
 cases hB:B id with
 |none=>rw[h.dom id hB]at hc;cases hc
 |some ob=>exact(h.slots id ob hB).blkW hc hoc
theorem After.lent{w w1:World}{pub bW:Nat->Nat->Prop}{e e1:Nat->Option CObj}{B:List (Nat×SObj)}(h:After w pub e (aj B) w1 bW e1)(hk:(aM B).all bd=true):∀id c,e1 id=some c->bd id=true:=by
 intro id c hc
 cases hg:aj B id with
 |none=>rw[h.dom id hg]at hc;cases hc
 |some o=>exact O9.1 hk id (OC.2 ⟨(id,o),bY _ _ _ hg,rfl⟩)
theorem Ext.lay{e:Nat->Option CObj}{w:World}{pub:Nat->Nat->Prop}{id:Nat}{c:CObj}(hn:e id=none):Ext ⟨e,w,pub⟩ ⟨fun i=>if i=id then some c else e i,w,pub⟩:=by
 refine⟨fun i c' hi=>⟨c',?_,CLe.refl c'⟩,fun _ _ p=>p,fun _ _ _=>rfl⟩;have hi:e i=some c':=hi;have:i≠id:=fun q=>by rw[q,hn]at hi;cases hi
 simp only[O0 this];exact hi
theorem Ext.drop{Ω:Om}{e:Nat->Option CObj}{w:World}{pub:Nat->Nat->Prop}(h:Ext Ω ⟨e,w,pub⟩){A:List Nat}(hA:∀i∈A,Ω.e i=none):Ext Ω ⟨fun i=>if i∈A then none else e i,w,pub⟩:=by
 refine⟨fun i c hi=>?_,h.pub,h.cell⟩;have:i∉A:=fun q=>by rw[hA i q]at hi;cases hi
 simp only[O0 this];exact h.e i c hi
theorem Ext.world{e:Nat->Option CObj}{W W2:World}{pub:Nat->Nat->Prop}(hp:jx W pub)(hb:∀b,b<W.heap.size->W2.heap[b]?=W.heap[b]?∨∀o,¬pub b o):Ext ⟨e,W,pub⟩ ⟨e,W2,pub⟩:=
 ⟨fun _ c hc=>⟨c,hc,CLe.refl c⟩,fun _ _ p=>p,fun b o p=>by
  obtain⟨v,hv⟩:=hp b o p;exact ai ((hb b (aC hv)).resolve_right fun q=>q o p) o⟩
structure Foreign(e:Nat->Option CObj)(pub:Nat->Nat->Prop)(b:Nat):Prop where
 no:∀o,¬gM e b o
 np:∀o,¬pub b o
theorem Foreign.lay{e:Nat->Option CObj}{pub:Nat->Nat->Prop}{l:Nat}(h:Foreign e pub l){id b off n:Nat}(hb:b≠l):Foreign (fun i=>if i=id then some (.box b off n)else e i) pub l:=by
 refine⟨fun o ⟨i,c,hi,ho⟩=>?_,h.np⟩;by_cases q:i=id
 ·simp only[O3 q,Xs]at hi;subst hi;exact hb ho.1.symm
 ·simp only[O0 q]at hi;exact h.no o ⟨i,c,hi,ho⟩
theorem Foreign.drop{e:Nat->Option CObj}{pub:Nat->Nat->Prop}{l:Nat}(h:Foreign e pub l)(A:List Nat):Foreign (fun i=>if i∈A then none else e i) pub l:=by
 refine⟨fun o ⟨i,c,hi,ho⟩=>?_,h.np⟩;by_cases q:i∈A
 ·simp only[O3 q]at hi;cases hi
 ·simp only[O0 q]at hi;exact h.no o ⟨i,c,hi,ho⟩
theorem Foreign.after{w w1:World}{pub bW:Nat->Nat->Prop}{e e1:Nat->Option CObj}{B:Nat->Option SObj}(h:After w pub e B w1 bW e1){l:Nat}(hl:l<w.heap.size)(hf:Foreign e pub l):Foreign e1 bW l:=
 ⟨fun o ho=>by
  rcases h.owns ho with q|q
  ·omega
  ·exact hf.no o q,fun o ho=>by
  rcases h.fresh l o ho with q|q|q
  ·exact hf.np o q
  ·omega
  ·exact hf.no o q⟩
theorem After.swapL{w w1:World}{pub bW:Nat->Nat->Prop}{e e1:Nat->Option CObj}{x y:Nat×SObj}{B:List (Nat×SObj)}(h:After w pub e (aj (x::y::B)) w1 bW e1)(hne:(x.1 ==y.1)=false):After w pub e (aj (y::x::B)) w1 bW e1:=by
 have e:aj (x::y::B)=aj (y::x::B):=by
  funext i;obtain⟨a,o⟩:=x;obtain⟨b,o'⟩:=y;simp only[aH];by_cases h1:a=i
  ·subst h1;have:¬b=a:=fun q=>by subst q;simp at hne
   simp[this]
  ·simp[h1]
 rw[<-e];exact h
end Go.AL
end
section
namespace Go.Proofs
open Go.RowKit Go.AL
variable [Tabs]
attribute [local go_sem] Oper.semAt_some
structure IV where
 k:Int
 s1:ByteArray
 k2:Int
 s3:ByteArray
 s4:ByteArray
 a5:Option Addr
 n5:Nat
 c5:Nat
 a6:Option Addr
 n6:Nat
 c6:Nat
def IV.vs(x:IV):List Value:=[.int .i64 x.k,.string x.s1,.int .i64 x.k2,.string x.s3,.string x.s4,.slice x.a5 x.n5 x.c5,.slice x.a6 x.n6 x.c6]
theorem HP{n:Nat}{P:Program}{ops:Array Oper}{Q:Exit->Act->World->Prop}{rest:List Oper}{a:Act}{w:World}{o:Oper}(hw:Region.wanted o (yielded ops a.tmps)=false)
 (h:wpListIn Fence.wide n P ops Q rest (a.put o.dst undef) w):wpListIn Fence.wide n P ops Q (o::rest) a w:=by
 simp only[wpListIn,hw];exact⟨fun _ _=>trivial,h⟩
set_option maxRecDepth 100000 in
set_option maxHeartbeats 4000000 in
theorem Tryz.lets1(m l n b off cap bK oK:Nat)(q:Option Addr)(vals:Nat->IV)(hn:n<=4611686018427387904)(J:Nat->World->Prop)
 (hR:∀k W,J k W->k<n->q=some ⟨b,off,none⟩/\∀(j:Nat)(v:Value),(vals k).vs[j]?=some v->W.cell? ⟨b,off+(k *7+j),none⟩=some v)
 (hA:∀k W o,J k W->J k (W.alloc o))(hN:∀k W,J k W->k<n->(vals k).k≠3->J (k+1) W)
 (hY:∀k W,J k W->k<n->(vals k).k=3->YieldAt Fence.wide m Tryz.prog l #[.agg (vals k).vs.toArray] W fun e W'=>e=.returned (.bool true)/\J (k+1) W')
 (W:World)(hK:W.cell? ⟨bK,oK,none⟩=some (.slice q n cap))(h0:J 0 W) :
  CallsIn Fence.wide (m+1) Tryz.prog 98 #[.func (.yield l) #[] #[],.pointer (some ⟨bK,oK,none⟩)] W fun e W'=>(∃v,e=.returned v)/\J n W':=by
 refine callsIn_of_wp Tryz.func98 rfl trivial ?_ rfl;simp only[Tryz.ntmps98,PB,O8,ON,Nat.reduceAdd,Nat.reduceSub,Pu,Pv,PH,Px,Pn,OQ]
 gi_wp2
 gi_loopw [7] (fun i wr=>∃k:Nat,k<=n/\i=.int .i64 k/\J k wr)
  (fun i _=>n-(intOf i).toNat)
 case atStart=>exact⟨0,Of _,rfl,h0⟩
 case round=>
  obtain⟨k,hk,rfl,hJs⟩:=hrel;by_cases hlt:k<n
  ·obtain⟨rfl,hv⟩:=hR k wr hJs hlt;have hJ1:=hA k wr (.cells (vals k).vs.toArray 49) hJs;have hN1:=hN k _ hJ1 hlt;have hY1:=hY k _ hJ1 hlt;have hsmall:(k:Int)+1<=9223372036854775807:=by omega
   generalize vals k=x at hv hJ1 hN1 hY1;obtain⟨kd,s1,k2,s3,s4,a5,n5,c5,a6,n6,c6⟩:=x;have v0:=hv 0 _ rfl;have v1:=hv 1 _ rfl;have v2:=hv 2 _ rfl;have v3:=hv 3 _ rfl;have v4:=hv 4 _ rfl;have v5:=hv 5 _ rfl;have v6:=hv 6 _ rfl;simp only[IV.vs]at hJ1 hY1 hN1;simp only[<-PO,PR]at v0 v1 v2 v3 v4 v5 v6;clear hR hA hN hY hv;by_cases h3:kd=3
   ·subst h3;obtain⟨fn,tmps,assign,body,hy,hRd⟩:=hY1 rfl;clear hN1 hY1
    gi_wp2
    refine hRd.mono ?_;rintro e W3 ⟨rfl,hJ3⟩
    gi_wp2
    go_roundw
    case rel=>exact⟨k+1,by omega,by simp,hJ3⟩
    case measure=>simp[intOf];omega
   ·have h3':(kd ==3)=false:=by simpa using h3
    have hJ2:=hN1 h3;clear hN1 hY1
    gi_wp2_with (refine HP rfl ?_;simp only[Act.put,List.setIfInBounds_toArray,List.set_cons_succ,List.set_cons_zero])
    exact⟨⟨k+1,by omega,by simp,hJ2⟩,by simp[intOf];omega⟩
  ·obtain rfl:k=n:=by omega
   clear hR hA hN hY
   gi_wp2
   go_end0
   exact⟨⟨_,rfl⟩,hJs⟩
end Go.Proofs
end
noncomputable section
open Go Go.AL Go.Proofs Go.Pd Go.RowKit
namespace Go.AL.Seat
attribute [local go_sem] Oper.semAt_some
variable [Tabs]
noncomputable def cA:Code->Code|.seq a _=>a|c=>c
noncomputable def cB:Code->Code|.seq _ b=>b|c=>c
noncomputable def cF:Func->Code:=fun f=>f.body.getD .skip
noncomputable def im0:Code:=cA (cF Tryz.f23)
noncomputable def im1:Code:=cA (cB (cF Tryz.f23))
noncomputable def im2:Code:=cA (cB (cB (cF Tryz.f23)))
noncomputable def rgB:Code->Array Oper|.block _ (.rangeFunc _ _ _ (.block _ (.region _ ops _)))=>ops|_=>#[]
noncomputable def im4:Array Oper:=rgB (cB (cB (cB (cF Tryz.f23))))
def im3:Code:=Code.region 3 #[{dst:=some 4,op:=Op.alloc 49,type:=0,pos:= "check.go:50",after:=#[],guard:=none},{dst:=none,op:=Op.store 49 (Operand.tmp 4) (Operand.tmp 25),type:=0,pos:= "check.go:50",after:=#[{on:=0,ground:=Ground.data},{on:=0,ground:=Ground.phase}],guard:=none}] false
noncomputable def imC:Cfg:=⟨tbl,gF [(55,p2 .str (.lst (.st .item)) fun o l=>⟨some (l.length<=1048576/\∀x∈l,allS nmU x.shape=true),none,.lst (.st .bind) (bc o l) none,[]⟩),
 (56,p1 (.lst (.st .item)) fun l=>⟨none,none,.fn 98 [.ptr 1 0],[(1,.box (.lst (.st .item) l none))]⟩),
 (57,LG (fun se ty va o n x=>⟨some (va.length<=1000000),none,.tup [],[(900,.box (.agg [.str se,.lst (.st .bind) ty (some 901),.lst (.st .bind) (va++[AL.Bndg.mk o n x]) (some 902),.nils])),(902,.tail (.st .bind) (va.length+1))]⟩) fun e o n x=>⟨some (e.values.length<=1000000),none,.tup [],[(900,.box (.agg [.str e.self,.lst (.st .bind) e.types none,.lst (.st .bind) (e.values++[AL.Bndg.mk o n x]) (some 901),.lst (.st .bind) e.own (some 902)])),(901,.tail (.st .bind) (e.values.length+1))]⟩)],fun _=>false,fun f=>if Nat.beq f 57 then[some 1004]else[],fun _=>false,fun _=>false,fun _=>false⟩
theorem Md:Tryz.f23.body=some (.seq im0 (.seq im1 (.seq im2 (.block 0 (.rangeFunc (.tmp 24) #[25] im3 (.block 1 (.region 4 im4 true))))))):=by kernel_rfl
def imQ(t:St):SX->St->Prop:=fun x s=>match x with|.normal=>cS s t|_=>False
def imN(c:Code)(Q:SX->St->Prop):SX->St->Prop:=fun x s=>match x with|.normal=>swp imC [2,3,24] ⟨[],[],[]⟩ c s Q|e=>Q e s
def NT(d:Depd)(S:List (Nat×SObj)):List (Nat×SObj):=(2,.box (.ptr 900 0))::(3,.box (.st .dep d))::(2024,.box (.lst (.st .item) d.items none))::S
theorem Nl(se:Str)(ty va:List Bndg)(d:Depd)(h1:d.items.length<=4000)(h2:∀x∈d.items,allS nmU x.shape=true)(h3:ty.length<=500000) :
  swp imC [2,3,24] ⟨[],[],[]⟩ im0 ⟨df 0 [.ptr 900 0,.st .dep d],ck1 se ty va⟩ (imN (.seq im1 (.seq im2 .skip)) (imQ ⟨[(2,.ptr 2 0),(3,.ptr 3 0),(24,.fn 98 [.ptr 2024 0])],NT d (ck1 se (ty++bc d.name d.items) va)⟩)):=by
 have:=kX d.name d.items
 have c:(List.length d.items<=(1048576:Nat)/\∀(x:AL.Item),x∈d.items->allS nmU x.shape=true)/\(List.length ty=List.length ty/\(List.length ty+List.length (bc d.name d.items)) *(120:Nat)<=(140737488355328:Nat))/\d=d/\d.items=d.items/\se=se/\ty++bc d.name d.items=ty++bc d.name d.items/\va=va/\
   List.length (ty++bc d.name d.items)=List.length (ty++bc d.name d.items)/\List.length va=List.length va/\gD (den Ty.str×den (Ty.st SN.item))=gD (den Ty.str×den (Ty.st SN.item))/\True:=
  ⟨⟨by omega,h2⟩,⟨rfl,by omega⟩,rfl,rfl,rfl,rfl,rfl,rfl,rfl,rfl,trivial⟩
 exact @Eq.mpr _ _ (by kernel_rfl) c
theorem Nn(s:St)(Q:SX->St->Prop):swp imC [2,3,24] ⟨[],[],[]⟩ (.seq im1 (.seq im2 .skip)) s Q=swp imC [2,3,24] ⟨[],[],[]⟩ im1 s (imN (.seq im2 .skip) Q):=by kernel_rfl
theorem No(s:St)(Q:SX->St->Prop):swp imC [2,3,24] ⟨[],[],[]⟩ (.seq im2 .skip) s Q=swp imC [2,3,24] ⟨[],[],[]⟩ im2 s (imN .skip Q):=by kernel_rfl
def imS(se:Str)(ty va:List Bndg)(d:Depd):List (Nat×SObj):=(906,.box (.st .dep d))::(905,.box (.ptr 900 0))::ck1 se ty va
theorem Me(se:Str)(ty va:List Bndg)(d:Depd)(x:AL.Item)(h:va.length<=1000000) :
  kq imC [] im4 true ⟨[(2,.ptr 905 0),(3,.ptr 906 0),(4,.ptr 904 0)],(904,.box (.st .item x))::imS se ty va d⟩ (imQ ⟨[],(904,.box (.st .item x))::imS se ty (va++[⟨d.name,x.name,x.shape⟩]) d⟩):=by
 have c:((List.length ty=List.length ty/\List.length va=List.length va)/\List.length va<=(1000000:Nat))/\x=x/\d=d/\se=se/\ty=ty/\va++[AL.Bndg.mk d.name x.name x.shape]=va++[AL.Bndg.mk d.name x.name x.shape]/\List.length ty=List.length ty/\
   List.length va+(1:Nat)=List.length (va++[AL.Bndg.mk d.name x.name x.shape])/\gD (den Ty.str×den (Ty.st SN.item))=gD (den Ty.str×den (Ty.st SN.item))/\True:=
  ⟨⟨⟨rfl,rfl⟩,h⟩,rfl,rfl,rfl,rfl,rfl,rfl,by rw[Oj];rfl,rfl,trivial⟩
 exact @Eq.mpr _ _ (by kernel_rfl) c
theorem Np:∀o∈im4.toList,∀d,o.dst=some d->d<36:=by
 have h:im4.toList.all (fun o=>match o.dst with|some d=>Nat.blt d 36|none=>true)=true:=by kernel_rfl
 intro o ho d hd;have:=O9.1 h o ho;rw[hd]at this;simpa[Qv]using this
theorem Nq:∀o∈im4.toList,∀c,o.op≠.defer c:=by
 have h:im4.toList.all (fun o=>match o.op with|.defer _=>false|_=>true)=true:=by kernel_rfl
 intro o ho c hc;have:=O9.1 h o ho;rw[hc]at this;cases this
theorem Kx{Ω:Om}{l:List AL.Item}{v:Value}(h:V Ω (.lst (.st .item) l none) v):∃(q:Option Addr)(cap b off:Nat)(vals:Nat->IV),v=.slice q l.length cap/\
  ∀k,k<l.length->q=some ⟨b,off,none⟩/\(vals k).k=(l.getD k (dfl (.st .item))).kind/\VL Ω (dN (l.getD k (dfl (.st .item)))) (vals k).vs/\
   ∀(j:Nat)(v':Value),(vals k).vs[j]?=some v'->Ω.pub b (off+(k *7+j))/\Ω.w.cell? ⟨b,off+(k *7+j),none⟩=some v':=by
 rcases h.lst_inv with⟨rfl,rfl,_⟩|⟨rfl,_,a,rfl⟩|⟨b,off,cap,vals,rfl,h1,h2,_,h4,h5⟩
 ·exact⟨none,0,0,0,fun _=>⟨0,default,0,default,default,none,0,0,none,0,0⟩,rfl,fun k hk=>by cases hk⟩
 ·exact⟨some a,0,0,0,fun _=>⟨0,default,0,default,default,none,0,0,none,0,0⟩,rfl,fun k hk=>by cases hk⟩
 ·have key:∀k,∃iv:IV,k<l.length->iv.k=(l.getD k (dfl (.st .item))).kind/\iv.vs=[vals k 0,vals k 1,vals k 2,vals k 3,vals k 4,vals k 5,vals k 6]:=by
   intro k;by_cases hk:k<l.length
   ·have e:l[k]?=some (l.getD k (dfl (.st .item))):=by simp[O4,hk]
    generalize l.getD k (dfl (.st .item))=x at e;have c:=h5 k x e;have c0:=(c 0 (.int .i64 x.kind) rfl).int_inv.1;have c1:=(c 1 (.str x.name) rfl).str_inv.1;have c2:=(c 2 (.int .i64 x.shape.kind) rfl).int_inv.1;have c3:=(c 3 (.str x.shape.pkg) rfl).str_inv.1;have c4:=(c 4 (.str x.shape.name) rfl).str_inv.1;have c5:∃a n m,vals k 5=.slice a n m:=by rcases(c 5 (.lst .str x.shape.names none) rfl).lst_inv with⟨_,q,_⟩|⟨_,_,a,q⟩|⟨_,_,_,_,q,_⟩<;>exact⟨_,_,_,q⟩
    have c6:∃a n m,vals k 6=.slice a n m:=by rcases(c 6 (.lst (.st .shape) x.shape.parts none) rfl).lst_inv with⟨_,q,_⟩|⟨_,_,a,q⟩|⟨_,_,_,_,q,_⟩<;>exact⟨_,_,_,q⟩
    obtain⟨a5,n5,m5,c5⟩:=c5;obtain⟨a6,n6,m6,c6⟩:=c6;exact⟨⟨x.kind,_,x.shape.kind,_,_,a5,n5,m5,a6,n6,m6⟩,fun _=>⟨rfl,by rw[c0,c1,c2,c3,c4,c5,c6];rfl⟩⟩
   ·exact⟨⟨0,default,0,default,default,none,0,0,none,0,0⟩,fun h=>absurd h hk⟩
  obtain⟨iv,hiv⟩:=Classical.skolem.1 key;refine⟨_,cap,b,off,iv,rfl,fun k hk=>⟨rfl,(hiv k hk).1,?_,?_⟩⟩
  ·have e:l[k]?=some (l.getD k (dfl (.st .item))):=by simp[O4,hk]
   rw[(hiv k hk).2];have c:=h5 k _ e
   exact⟨rfl,fun j c' v' hc hv=>by
    have:v'=vals k j:=by
     match j,hv with
     |0,hv=>exact(OG hv).symm
     |1,hv=>exact(OG hv).symm
     |2,hv=>exact(OG hv).symm
     |3,hv=>exact(OG hv).symm
     |4,hv=>exact(OG hv).symm
     |5,hv=>exact(OG hv).symm
     |6,hv=>exact(OG hv).symm
     |n+7,hv=>cases hv
    rw[this];exact c j c' hc⟩
  ·have e:l[k]?=some (l.getD k (dfl (.st .item))):=by simp[O4,hk]
   rw[(hiv k hk).2];intro j v' hv
   match j,hv with
   |0,hv=>cases hv;exact h4 k _ e 0 _ rfl
   |1,hv=>cases hv;exact h4 k _ e 1 _ rfl
   |2,hv=>cases hv;exact h4 k _ e 2 _ rfl
   |3,hv=>cases hv;exact h4 k _ e 3 _ rfl
   |4,hv=>cases hv;exact h4 k _ e 4 _ rfl
   |5,hv=>cases hv;exact h4 k _ e 5 _ rfl
   |6,hv=>cases hv;exact h4 k _ e 6 _ rfl
   |n+7,hv=>cases hv
theorem wW(o:Str):∀(l m:List AL.Item),dq o (l++m)=dq o l++dq o m
 |[],m=>rfl
 |x::r,m=>by rw[OQ];simp only[dq,wW o r m];split<;>rfl
theorem BY(o:Str)(l:List AL.Item)(k:Nat)(d:AL.Item)(h:k<l.length) :
  dq o (l.take (k+1))=dq o (l.take k)++(if(l.getD k d).kind=3 then[⟨o,(l.getD k d).name,(l.getD k d).shape⟩]else[]):=by
 rw[cD l k d h,wW];simp only[dq]
def imR(fn:FuncId)(tm:Array Value)(D:Nat)(st:LoopState):Loop:={state:=st,pending:=none,fn,tmps:=tm,params:=#[25],assign:=im3,body:=.block 1 (.region 4 im4 true),defers:=D}
structure ImJ(w:World)(pub:Nat->Nat->Prop)(e:Nat->Option CObj)(W1:World)(bW:Nat->Nat->Prop)(e1:Nat->Option CObj)(fn:FuncId)(tm:Array Value)(l D:Nat)(B:List (Nat×SObj))(W:World):Prop where
 aft:∃pub' e',After w pub e (aj B) W pub' e'/\Ext ⟨e1,W1,bW⟩ ⟨e',W,pub'⟩/\Foreign e' pub' l/\Foreign e' pub' D
 L:W.heap[l]?=some (.loop (imR fn tm D .ready))
 K:W.heap[D]?=some (.deferred (some []))
section
variable {w W1:World} {pub bW:Nat->Nat->Prop} {e e1:Nat->Option CObj} {fn:FuncId} {tm:Array Value} {l D:Nat}
theorem ImJ.alloc{B:List (Nat×SObj)}{W:World}(h:ImJ w pub e W1 bW e1 fn tm l D B W)(o:Obj):ImJ w pub e W1 bW e1 fn tm l D B (W.alloc o):=by
 obtain⟨⟨pub',e',h1,h2,h3,h4⟩,hL,hK⟩:=h
 exact⟨⟨pub',e',h1.post rfl rfl rfl (by simp) fun b hb=>.inl (Below.heap_alloc _ _ b hb),h2.trans (Ext.world h1.ok fun b hb=>.inl (Below.heap_alloc _ _ b hb)),h3,h4⟩,
  (Below.heap_alloc _ _ _ (aI hL)).trans hL,(Below.heap_alloc _ _ _ (aI hK)).trans hK⟩
theorem Ky(hS:bJ Tryz.prog imC.spec)(hl:∀id c,e id=some c->bd id=true)(ht:ec w pub e)(hwl:w.heap.size<=l)(hwD:w.heap.size<=D)(hlD:D≠l)
 {se:Str}{ty va:List Bndg}{d:Depd}{x:AL.Item}{iv:IV}{W:World}{t0 t1 t2 t3 t4 t5 t6 t7 t8 t9 t10 t11 t12 t13 t14 t15 t16 t17 t18 t19 t20 t21 t22 t23 t24 t25 t26 t27 t28 t29 t30 t31 t32 t33 t34 t35:Value}(htm:tm=(t0::t1::t2::t3::t4::t5::t6::t7::t8::t9::t10::t11::t12::t13::t14::t15::t16::t17::t18::t19::t20::t21::t22::t23::t24::t25::t26::t27::t28::t29::t30::t31::t32::t33::t34::t35::[]).toArray)
 (h2:V ⟨e1,W1,bW⟩ (.ptr 905 0) t2)(h3:V ⟨e1,W1,bW⟩ (.ptr 906 0) t3)(hiv:VL ⟨e1,W1,bW⟩ (dN x) iv.vs)(hva:va.length<=1000000)
 (hJ:ImJ w pub e W1 bW e1 fn tm l D (imS se ty va d) W) :
  YieldAt Fence.wide 0 Tryz.prog l #[.agg iv.vs.toArray] W fun en W'=>en=.returned (.bool true)/\ImJ w pub e W1 bW e1 fn tm l D (imS se ty (va++[⟨d.name,x.name,x.shape⟩]) d) W':=by
 subst htm;obtain⟨⟨pub',e',ha,hx,hf,hg⟩,hL,hK⟩:=hJ;obtain⟨kd,s1,k2,s3,s4,a5,n5,c5,a6,n6,c6⟩:=iv;refine⟨fn,(t0::t1::t2::t3::t4::t5::t6::t7::t8::t9::t10::t11::t12::t13::t14::t15::t16::t17::t18::t19::t20::t21::t22::t23::t24::.agg (IV.vs ⟨kd,s1,k2,s3,s4,a5,n5,c5,a6,n6,c6⟩).toArray::t26::t27::t28::t29::t30::t31::t32::t33::t34::t35::[]).toArray,im3,.block 1 (.region 4 im4 true),by simpa[imR]using run_yield (P:=Tryz.prog) (args:=#[.agg (IV.vs ⟨kd,s1,k2,s3,s4,a5,n5,c5,a6,n6,c6⟩).toArray]) hL rfl,roundIn_of_wpIn trivial ?_⟩;simp only[IV.vs]at hiv⊢;obtain⟨Rq,hRq⟩:∃Rq:Act->World->Prop,Rq=fun a₁ w₁=>∃w₂,(Instr.beginRound l).run Tryz.prog w₁=.ok () w₂/\(Code.block 1 (.region 4 im4 true)).wpIn (Fence.wide.inRound l) 0 Tryz.prog (roundPost Tryz.prog l fun en W'=>en=.returned (.bool true)/\ImJ w pub e W1 bW e1 fn (t0::t1::t2::t3::t4::t5::t6::t7::t8::t9::t10::t11::t12::t13::t14::t15::t16::t17::t18::t19::t20::t21::t22::t23::t24::t25::t26::t27::t28::t29::t30::t31::t32::t33::t34::t35::[]).toArray l D (imS se ty (va++[⟨d.name,x.name,x.shape⟩]) d) W') a₁ w₂:=⟨_,rfl⟩;rw[<-hRq];unfold im3
 gi_wp2
 rw[hRq];clear hRq;obtain⟨Wa,hWa⟩:∃Wa,W.alloc (.cells #[.int .i64 kd,.string s1,.int .i64 k2,.string s3,.string s4,.slice a5 n5 c5,.slice a6 n6 c6] 49)=Wa:=⟨_,rfl⟩;rw[hWa];have hlW:=aI hL;have hDW:=aI hK;have old:∀b,b<W.heap.size->Wa.heap[b]?=W.heap[b]?:=fun b hb=>by rw[<-hWa];exact Below.heap_alloc _ _ _ hb
 have sz:Wa.heap.size=W.heap.size+1:=by rw[<-hWa];simp
 have h4:Wa.heap[W.heap.size]?=some (.cells #[.int .i64 kd,.string s1,.int .i64 k2,.string s3,.string s4,.slice a5 n5 c5,.slice a6 n6 c6] 49 (0,0)):=by rw[<-hWa];exact World.alloc_heap_new _ _
 have hLa:=(old l hlW).trans hL;have eos:Wa.os=W.os/\Wa.tape=W.tape/\Wa.output=W.output:=by rw[<-hWa];exact⟨rfl,rfl,rfl⟩
 refine⟨_,run_beginRound hLa rfl,?_⟩;obtain⟨W2,hW2⟩:∃W2,Wa.putObj l (.loop {imR fn (t0::t1::t2::t3::t4::t5::t6::t7::t8::t9::t10::t11::t12::t13::t14::t15::t16::t17::t18::t19::t20::t21::t22::t23::t24::t25::t26::t27::t28::t29::t30::t31::t32::t33::t34::t35::[]).toArray D .ready with state:=.busy})=W2:=⟨_,rfl⟩;rw[hW2];have old2:∀b,b≠l->W2.heap[b]?=Wa.heap[b]?:=fun b hb=>by rw[<-hW2];exact World.putObj_heap_other hb
 have hL2:W2.heap[l]?=some (.loop {imR fn (t0::t1::t2::t3::t4::t5::t6::t7::t8::t9::t10::t11::t12::t13::t14::t15::t16::t17::t18::t19::t20::t21::t22::t23::t24::t25::t26::t27::t28::t29::t30::t31::t32::t33::t34::t35::[]).toArray D .ready with state:=.busy}):=by rw[<-hW2];exact World.putObj_heap_same (by omega)
 have sz2:W2.heap.size=W.heap.size+1:=by rw[<-hW2,World.putObj_size,sz]
 have eos2:W2.os=W.os/\W2.tape=W.tape/\W2.output=W.output:=by rw[<-hW2];exact eos
 have hK2:W2.heap[D]?=some (.deferred (some [])):=(old2 D hlD).trans ((old D hDW).trans hK);have h42:=(old2 W.heap.size (by omega)).trans h4;clear hWa hW2 hLa h4
 have ha2:After w pub e (aj (imS se ty va d)) W2 pub' e':=ha.post eos2.1 eos2.2.1 eos2.2.2 (by omega) fun b hb=>by
  by_cases q:b=l
  ·exact .inr (by rw[q];exact⟨hwl,hf.no,hf.np⟩)
  ·exact .inl ((old2 b q).trans (old b hb))
 have hx2:Ext ⟨e1,W1,bW⟩ ⟨e',W2,pub'⟩:=hx.trans (Ext.world ha.ok fun b hb=>by
  by_cases q:b=l
  ·exact .inr (by rw[q];exact hf.np)
  ·exact .inl ((old2 b q).trans (old b hb)))
 have hsz:=ha.size
 have hA4:=ha2.lay (id:=904) (b:=W.heap.size) (off:=0) (c:=.st .item x) rfl (fun j c' hj=>by
  have hj:(dN x)[j]?=some c':=hj
  have hj7:j<7:=by
   rcases O5 j 7 with q|q
   ·exact q
   ·rw[O2 (by exact q)]at hj;cases hj
  obtain⟨v,hv⟩:∃v,[Value.int .i64 kd,.string s1,.int .i64 k2,.string s3,.string s4,.slice a5 n5 c5,.slice a6 n6 c6][j]?=some v:=⟨_,NY hj7⟩;refine⟨.inl hsz,fun ho=>?_,fun hp=>?_,ez h42 _,v,?_,(hiv.2 j c' v hj hv).ext hx2⟩
  ·have:=ha.blk ho;omega
  ·obtain⟨u,hu⟩:=ha.ok _ _ hp;have:=aC hu;omega
  ·rw[al h42,P0];simpa using hv)
 have n904:e' 904=none:=ha.dom 904 rfl;have hx4:=hx2.trans (Ext.lay (id:=904) (c:=.box W.heap.size 0 (ae (.st .item x)).length) n904);have hf4:=(hf.lay (id:=904) (b:=W.heap.size) (off:=0) (n:=(ae (.st .item x)).length) (by omega));have hg4:=(hg.lay (id:=904) (b:=W.heap.size) (off:=0) (n:=(ae (.st .item x)).length) (by omega));obtain⟨e4,he4⟩:∃e4,(fun i=>if i=904 then some (.box W.heap.size 0 (ae (.st .item x)).length)else e' i)=e4:=⟨_,rfl⟩;have e904:e4 904=some (.box W.heap.size 0 (ae (.st .item x)).length):=by rw[<-he4];rfl
 rw[he4]at hA4 hx4 hf4 hg4;clear he4;have hlent4:=hA4.lent rfl;have tab4:=ht.after hA4;have hx4':=hx4
 have hh:=hA4.enter hlent4 tab4 (t:=[(2,.ptr 905 0),(3,.ptr 906 0),(4,.ptr 904 0)]) (tmps:=(t0::t1::t2::t3::.pointer (some ⟨W.heap.size,0,none⟩)::t5::t6::t7::t8::t9::t10::t11::t12::t13::t14::t15::t16::t17::t18::t19::t20::t21::t22::t23::t24::.agg #[.int .i64 kd,.string s1,.int .i64 k2,.string s3,.string s4,.slice a5 n5 c5,.slice a6 n6 c6]::t26::t27::t28::t29::t30::t31::t32::t33::t34::t35::[]).toArray) (fun i=>by
  rcases jX [(2,.ptr 905 0),(3,.ptr 906 0),(4,.ptr 904 0)] i with q|q
  ·rw[q];exact .undef _
  ·simp only[O7,Qu,Pz,Rf]at q;rcases q with⟨rfl,q⟩|⟨rfl,q⟩|⟨rfl,q⟩
   ·rw[q];exact h2.ext hx4
   ·rw[q];exact h3.ext hx4
   ·rw[q];exact V.ptr 904 0 W.heap.size 0 _ e904)
 refine wpIn_block (wpIn_mono (HO mixed ug hS [] Np Nq (Me se ty va d x hva) hh) ?_);rintro en a' w' ⟨z,s',Ω',hz,rfl,hh',hq'⟩
 cases z with
 |exit _=>exact hq'.elim
 |ret=>exact hq'.elim
 |pan _=>exact hq'.elim
 |normal=>
 cases hz;obtain⟨Ω5,e5,hh5⟩:=dy hh' (gq hq');rw[<-e5];have hB5:=fB hh5;have hA5:=hA4.trans hB5
 have hA6:=hA5.drop (A:=[904]) (B':=imS se ty (va++[⟨d.name,x.name,x.shape⟩]) d) hl ht (fun i hi=>by rw[OH.1 hi];rfl) (fun i hi=>by
   have hi:¬904=i:=fun q=>hi (OH.2 q.symm);rw[aH,O0 (by simpa using hi)]) rfl (fun i hi=>by
   rw[OH.1 hi]
   cases q:e 904 with
   |none=>rfl
   |some c=>obtain⟨c',h1,_⟩:=ha.ext.e 904 c q;have h1:e' 904=some c':=h1;rw[n904]at h1;cases h1)
 have hl2:=aI hL2;have hD2:=aI hK2;have hL5:=(hB5.block l hl2 hf4.no).trans hL2;have hK5:=(hB5.block D hD2 hg4.no).trans hK2;have hf6:=(hf4.after hB5 hl2).drop [904];have hg6:=(hg4.after hB5 hD2).drop [904]
 have hx6:=(hx4.trans hB5.ext).drop (A:=[904]) (fun i hi=>by
   rw[OH.1 hi];show e1 904=none
   cases q:e1 904 with
   |none=>rfl
   |some c=>obtain⟨c',h1,_⟩:=hx.e 904 c q;have h1:e' 904=some c':=h1;rw[n904]at h1;cases h1)
 have hl5:=aI hL5;refine⟨_,_,run_endRound none hL5,rfl,⟨⟨_,_,hA6.post rfl rfl rfl (by rw[World.putObj_size];exact Od _) (fun b hb=>?_),hx6.trans (Ext.world hA6.ok fun b hb=>?_),hf6,hg6⟩,World.putObj_heap_same hl5,(World.putObj_heap_other hlD).trans hK5⟩⟩
 ·by_cases q:b=l
  ·exact .inr (by rw[q];exact⟨hwl,hf6.no,hf6.np⟩)
  ·exact .inl (World.putObj_heap_other q)
 ·by_cases q:b=l
  ·exact .inr (by rw[q];exact hf6.np)
  ·exact .inl (World.putObj_heap_other q)
end
theorem NU{a:Array Value}(h:a.size=36):∃t0 t1 t2 t3 t4 t5 t6 t7 t8 t9 t10 t11 t12 t13 t14 t15 t16 t17 t18 t19 t20 t21 t22 t23 t24 t25 t26 t27 t28 t29 t30 t31 t32 t33 t34 t35:Value,a=(t0::t1::t2::t3::t4::t5::t6::t7::t8::t9::t10::t11::t12::t13::t14::t15::t16::t17::t18::t19::t20::t21::t22::t23::t24::t25::t26::t27::t28::t29::t30::t31::t32::t33::t34::t35::[]).toArray:=by
 obtain⟨l⟩:=a;have h:l.length=36:=h
 match l,h with
 |t0::t1::t2::t3::t4::t5::t6::t7::t8::t9::t10::t11::t12::t13::t14::t15::t16::t17::t18::t19::t20::t21::t22::t23::t24::t25::t26::t27::t28::t29::t30::t31::t32::t33::t34::t35::[],_=>exact⟨t0,t1,t2,t3,t4,t5,t6,t7,t8,t9,t10,t11,t12,t13,t14,t15,t16,t17,t18,t19,t20,t21,t22,t23,t24,t25,t26,t27,t28,t29,t30,t31,t32,t33,t34,t35,rfl⟩
theorem uN(hS:bJ Tryz.prog imC.spec)(se:Str)(ty va:List Bndg)(d:Depd)(ho:ty.length<=500000/\va.length<=500000/\d.items.length<=4000/\∀x∈d.items,allS nmU x.shape=true) :
  ak Tryz.prog 23 [.ptr 900 0,.st .dep d] (ck1 se ty va) ⟨some (ty.length<=500000/\va.length<=500000/\d.items.length<=4000/\∀x∈d.items,allS nmU x.shape=true),none,.tup [],[(900,.box (.agg [.str se,.lst (.st .bind) (ty++bc d.name d.items) (some 901),.lst (.st .bind) (va++dq d.name d.items) (some 902),.nils,.map 903])),(901,.tail (.st .bind) (ty.length+(bc d.name d.items).length)),(902,.tail (.st .bind) (va.length+(dq d.name d.items).length))]⟩:=by
 obtain⟨o1,o2,o3,o4⟩:=ho;intro w pub e vs hp ht hv hs hdom hinj
 have hl:∀id c,e id=some c->bd id=true:=by
  intro id c hc
  cases hg:aj (ck1 se ty va) id with
  |none=>rw[hdom id hg]at hc;cases hc
  |some o=>have:(aM (ck1 se ty va)).all bd=true:=rfl;exact O9.1 this id (OC.2 ⟨(id,o),bY _ _ _ hg,rfl⟩)
 obtain⟨ty',hty⟩:∃ty',ty++bc d.name d.items=ty':=⟨_,rfl⟩;have h0:=Nl se ty va d o3 o4 o1;rw[hty]at h0
 suffices key:∀R:Ending->World->Prop,(∀W pub' e',After w pub e (aj (ck1 se ty' (va++dq d.name d.items))) W pub' e'->R (.returned (.tuple #[])) W)->CallsIn Fence.wide 2 Tryz.prog 23 vs.toArray w R by refine callsIn_wide.1 (key _ fun W pub' e' ha=>⟨pub',e',show _/\_/\_ from⟨fun b pv u q=>(by cases q),V.tup [] [] rfl (fun j c v h=>by simp at h),?_⟩⟩);rw[<-Oj,<-Oj,hty];exact ha
 intro R hR;refine callsIn_of_wp_marks Tryz.func23 Md trivial ?_ rfl;have hh:=jc (n:=36) hp ht hv (show 2<=36 by omega) hs hdom hinj hl;have d0:bE 36 im0=true:=by kernel_rfl
 have d1:bE 36 im1=true:=by kernel_rfl
 have d2:bE 36 im2=true:=by kernel_rfl
 refine wpIn_seq (wpIn_mono (wpIn_wide.2 (gS (F:=⟨w,pub,36,e,hl,[],ht⟩) mixed ug hS [2,3,24] ⟨[],[],[]⟩ im0 _ _ _ _ h0 d0 hh)) ?_);rintro en a1 w1 ⟨x1,s1,Ω1,hx1,rfl,hh1,hq1⟩
 cases x1 with
 |exit _=>exact hq1.elim
 |ret=>exact hq1.elim
 |pan _=>exact hq1.elim
 |normal=>
 cases hx1;have hq1:=(Nn s1 _).mp hq1;refine wpIn_seq (wpIn_mono (wpIn_wide.2 (gS (F:=⟨w,pub,36,e,hl,[],ht⟩) mixed ug hS [2,3,24] ⟨[],[],[]⟩ im1 _ _ _ _ hq1 d1 hh1)) ?_);rintro en a2 w2 ⟨x2,s2,Ω2,hx2,rfl,hh2,hq2⟩
 cases x2 with
 |exit _=>exact hq2.elim
 |ret=>exact hq2.elim
 |pan _=>exact hq2.elim
 |normal=>
 cases hx2;have hq2:=(No s2 _).mp hq2;refine wpIn_seq (wpIn_mono (wpIn_wide.2 (gS (F:=⟨w,pub,36,e,hl,[],ht⟩) mixed ug hS [2,3,24] ⟨[],[],[]⟩ im2 _ _ _ _ hq2 d2 hh2)) ?_);rintro en a3 w3 ⟨x3,s3,Ω3,hx3,rfl,hh3,hq3⟩
 cases x3 with
 |exit _=>exact hq3.elim
 |ret=>exact hq3.elim
 |pan _=>exact hq3.elim
 |normal=>
 cases hx3;obtain⟨Ω4,e4,hh4⟩:=dy hh3 (gq (show cS s3 _ from hq3));show(Code.block 0 _).wpIn _ _ _ _ a3 Ω3.w;rw[<-e4];clear hh1 hh2 hh3 hq1 hq2 hq3 h0 d0 d1 d2 e4;obtain⟨tm3,df3⟩:=a3;have hdf:df3=[]:=hh4.defers;subst hdf;obtain⟨t0,t1,t2,t3,t4,t5,t6,t7,t8,t9,t10,t11,t12,t13,t14,t15,t16,t17,t18,t19,t20,t21,t22,t23,t24,t25,t26,t27,t28,t29,t30,t31,t32,t33,t34,t35,rfl⟩:=NU hh4.size;have v2:V Ω4 (.ptr 2 0) t2:=hh4.tmps 2;have v3:V Ω4 (.ptr 3 0) t3:=hh4.tmps 3;have v24:V Ω4 (.fn 98 [.ptr 2024 0]) t24:=hh4.tmps 24;obtain⟨bK,oK,eK,hcK⟩:=hh4.slots 2024 _ rfl;obtain⟨_,_,_,vK,cK,VK⟩:=hcK 0 (.lst (.st .item) d.items none) rfl;obtain⟨us,rfl,hus⟩:=v24.fn_inv;obtain⟨u,rfl⟩:=jd hus.1.symm;obtain⟨b',o',len',rfl,hb'⟩:=(hus.2 0 _ u rfl rfl).ptr_inv;rw[show Ω4.e 2024=_ from eK]at hb';cases hb';have hA0:After w pub e (aj ((2,.box (.ptr 900 0))::(3,.box (.st .dep d))::(2024,.box (.lst (.st .item) d.items none))::ck1 se ty' va)) Ω4.w Ω4.pub Ω4.e:=fB hh4;obtain⟨bC,oC,eC,hA1⟩:=hA0.move (id:=2) (id':=905) hl ht rfl rfl rfl rfl (fun i hi=>by simp[ids]at hi;omega) (fun c' hc i hi=>by simp[ae]at hc;subst hc;exact hi)
 obtain⟨bD,oD,eD,hA2⟩:=(hA1.swapL rfl).move (id:=3) (id':=906) hl ht rfl rfl rfl rfl (fun i hi=>by simp[ids]at hi) (fun c' hc i hi=>by
  have hc:c'∈[.str d.name,.lst (.st .item) d.items none]:=hc;simp only[O7,Pz,Rf]at hc;rcases hc with rfl|rfl<;>simp[ids]at hi)
 have eD:Ω4.e 3=some (.box bD oD (ae (.st .dep d)).length):=eD
 have hA3:=hA2.drop (A:=[2024]) (B':=imS se ty' va d) hl ht (fun i hi=>by rw[OH.1 hi];rfl) (fun i hi=>by
   have hi:¬2024=i:=fun q=>hi (OH.2 q.symm);simp only[imS,aH];by_cases q:906=i
   ·subst q;rfl
   ·by_cases q':905=i
    ·subst q';rfl
    ·simp[q,q',hi]) rfl (fun i hi=>by
   rw[OH.1 hi]
   cases q:e 2024 with
   |none=>rfl
   |some c=>have:=hl 2024 c q;cases this)
 obtain⟨e5,he5⟩:∃e5:Nat->Option CObj,(fun i=>if i∈[2024]then none else if i=906 then some (.box bD oD (ae (.st .dep d)).length)else if i∈[3]then none else if i=905 then some (.box bC oC (ae (.ptr 900 0)).length)else if i∈[2]then none else Ω4.e i)=e5:=⟨_,rfl⟩;rw[he5]at hA3;have e905:e5 905=some (.box bC oC (ae (.ptr 900 0)).length):=by rw[<-he5];rfl
 have e906:e5 906=some (.box bD oD (ae (.st .dep d)).length):=by rw[<-he5];rfl
 clear hA0 hA1 hA2 he5;obtain⟨D,hD⟩:∃D,D=Ω4.w.heap.size:=⟨_,rfl⟩;obtain⟨tm,htm⟩:∃tm,tm=(t0::t1::t2::t3::t4::t5::t6::t7::t8::t9::t10::t11::t12::t13::t14::t15::t16::t17::t18::t19::t20::t21::t22::t23::.func (.func 98) #[] #[.pointer (some ⟨bK,oK+0,none⟩)]::t25::t26::t27::t28::t29::t30::t31::t32::t33::t34::t35::[]).toArray:=⟨_,rfl⟩;refine wpIn_block (wpIn_rangeFunc fun fn hfn=>?_);obtain⟨W1,hW1⟩:∃W1,(Ω4.w.alloc (.deferred (some []))).alloc (.loop (imR fn tm D .ready))=W1:=⟨_,rfl⟩;have old:∀b,b<Ω4.w.heap.size->W1.heap[b]?=Ω4.w.heap[b]?:=fun b hb=>by rw[<-hW1];exact(Below.heap_alloc _ _ b (by simp;omega)).trans (Below.heap_alloc _ _ b hb)
 have sz:W1.heap.size=D+2:=by rw[<-hW1,hD];simp
 have eos:W1.os=Ω4.w.os/\W1.tape=Ω4.w.tape/\W1.output=Ω4.w.output:=by rw[<-hW1];exact⟨rfl,rfl,rfl⟩
 have hL1:W1.heap[D+1]?=some (.loop (imR fn tm D .ready)):=by
  rw[<-hW1,hD];have:=World.alloc_heap_new (Ω4.w.alloc (.deferred (some []))) (.loop (imR fn tm Ω4.w.heap.size .ready))
  rwa [World.size_alloc]at this
 have hK1:W1.heap[D]?=some (.deferred (some [])):=by rw[<-hW1,hD];exact(Below.heap_alloc _ _ _ (by simp)).trans (World.alloc_heap_new Ω4.w _)
 have hX1:Ext ⟨e5,Ω4.w,Ω4.pub⟩ ⟨e5,W1,Ω4.pub⟩:=Ext.world hA3.ok fun b hb=>.inl (old b hb);have hA5:After w pub e (aj (imS se ty' va d)) W1 Ω4.pub e5:=hA3.post eos.1 eos.2.1 eos.2.2 (by omega) fun b hb=>.inl (old b hb)
 have far:∀b,Ω4.w.heap.size<=b->Foreign e5 Ω4.pub b:=fun b hb=>⟨fun o ho=>by have:=hA3.blk ho;omega,fun o hp=>by
  obtain⟨u,hu⟩:=hA3.ok _ _ hp;have:=aC hu;omega⟩
 have hsz:=hA3.size;have VK1:V ⟨e5,W1,Ω4.pub⟩ (.lst (.st .item) d.items none) vK:=(VK.data (τ:=.lst (.st .item)) (x:=d.items) (e':=e5)).ext hX1;obtain⟨q,cap,b,off,vals,rfl,hvals⟩:=Kx VK1;have w2:V ⟨e5,W1,Ω4.pub⟩ (.ptr 905 0) t2:=by obtain⟨b',o',len',rfl,hb'⟩:=v2.ptr_inv;rw[eC]at hb';cases hb';exact V.ptr 905 0 bC oC _ e905
 have w3:V ⟨e5,W1,Ω4.pub⟩ (.ptr 906 0) t3:=by obtain⟨b',o',len',rfl,hb'⟩:=v3.ptr_inv;rw[eD]at hb';cases hb';exact V.ptr 906 0 bD oD _ e906
 have e98:∀args w,(callFunc 98 args).run Tryz.prog w=.ok (.enter 98 args) w:=enters_of Tryz.func98 (by kernel_rfl) rfl;refine⟨D+1,[{target:=.collected D,args:=#[]}],W1,{target:=.fn (.func 98) #[.pointer (some ⟨bK,oK+0,none⟩)],args:=#[.func (.yield (D+1)) #[] #[]]},W1,98,#[.func (.yield (D+1)) #[] #[]]++#[.pointer (some ⟨bK,oK+0,none⟩)],W1,?_,?_,fun _ _=>trivial,?_,fun q=>(by cases q),?_⟩
 ·rw[<-hW1,hD,htm];exact run_enterLoop_outer _ _ _ _ _
 ·simp[resolve,go_sem]
 ·simp[invoke,go_sem,e98]
 ·have hJ0:ImJ w pub e W1 Ω4.pub e5 fn tm (D+1) D (imS se ty' (va++dq d.name (d.items.take 0)) d) W1:=by rw[PJ];simp only[dq,P2];exact⟨⟨Ω4.pub,e5,hA5,Ext.refl _,far _ (by omega),far _ (by omega)⟩,hL1,hK1⟩
  have hlen:∀k,(va++dq d.name (d.items.take k)).length<=1000000:=fun k=>by
   have h1:=qb d.name (d.items.take k);have h2:(d.items.take k).length<=d.items.length:=by simp;omega
   rw[Oj];omega
  have hcell:W1.cell? ⟨bK,oK+0,none⟩=some (.slice q d.items.length cap):=(ai (old bK (aC cK)) _).trans cK
  refine(Tryz.lets1 0 (D+1) d.items.length b off cap bK (oK+0) q vals (by omega) (fun k W=>ImJ w pub e W1 Ω4.pub e5 fn tm (D+1) D (imS se ty' (va++dq d.name (d.items.take k)) d) W)
   (fun k W hJ hk=>⟨(hvals k hk).1,fun j v hj=>?_⟩) (fun k W o hJ=>hJ.alloc o) (fun k W hJ hk h3=>?_) (fun k W hJ hk h3=>?_) W1 hcell hJ0).mono ?_
  ·obtain⟨⟨pub',e',_,hx,_⟩,_,_⟩:=hJ;obtain⟨p1,p2⟩:=(hvals k hk).2.2.2 j v hj;exact(hx.cell _ _ p1).trans p2
  ·rw[BY d.name d.items k (dfl (.st .item)) hk,O0 (by rw[<-(hvals k hk).2.1];exact h3),P2];exact hJ
  ·refine(Ky hS hl ht (by omega) (by omega) (by omega) htm w2 w3 (hvals k hk).2.2.1 (hlen k) hJ).mono ?_;rintro en W' ⟨h1,h2⟩;refine⟨h1,?_⟩;rw[BY d.name d.items k (dfl (.st .item)) hk,O3 (by rw[<-(hvals k hk).2.1];exact h3),<-OE];exact h2
  ·rintro en W' ⟨⟨v0,rfl⟩,hJ⟩;rw[OY]at hJ;obtain⟨⟨pub',e',ha,hx,hf,hg⟩,hL,hK⟩:=hJ;refine⟨none,_,run_endLoop hL (by simp[imR]),?_⟩;obtain⟨W3,hW3⟩:∃W3,W'.putObj (D+1) (.loop {imR fn tm D .ready with state:=.exhausted})=W3:=⟨_,rfl⟩;show LeavesInM Fence.wide 2 Tryz.prog Tryz.f23 _ R [{target:=.collected D,args:=#[]}] .returning (W'.putObj (D+1) (.loop {imR fn tm D .ready with state:=.exhausted}));rw[hW3];have old3:∀b,b≠D+1->W3.heap[b]?=W'.heap[b]?:=fun b hb=>by rw[<-hW3];exact World.putObj_heap_other hb
   have sz3:W3.heap.size=W'.heap.size:=by rw[<-hW3,World.putObj_size]
   have eos3:W3.os=W'.os/\W3.tape=W'.tape/\W3.output=W'.output:=by rw[<-hW3];exact⟨rfl,rfl,rfl⟩
   have hK3:=(old3 D (by omega)).trans hK
   have ha3:After w pub e (aj (imS se ty' (va++dq d.name d.items) d)) W3 pub' e':=ha.post eos3.1 eos3.2.1 eos3.2.2 (by omega) fun b hb=>by
    by_cases q:b=D+1
    ·exact .inr (by rw[q];exact⟨by omega,hf.no,hf.np⟩)
    ·exact .inl (old3 b q)
   have ha4:After w pub e (aj (imS se ty' (va++dq d.name d.items) d)) (W3.putObj D (.deferred none)) pub' e':=ha3.post rfl rfl rfl (by rw[World.putObj_size];exact Od _) fun b hb=>by
    by_cases q:b=D
    ·exact .inr (by rw[q];exact⟨by omega,hg.no,hg.np⟩)
    ·exact .inl (World.putObj_heap_other q)
   have none_of:∀i,bd i=true->aj (ck1 se ty va) i=none->e i=none:=fun i _ h=>hdom i h
   have ha5:=ha4.drop (A:=[906,905]) (B':=ck1 se ty' (va++dq d.name d.items)) hl ht (fun i hi=>by
     simp only[O7,Pz,Rf]at hi;rcases hi with rfl|rfl<;>rfl) (fun i hi=>by
     simp only[O7,Pz,Rf,Ry]at hi;have h1:¬906=i:=fun q=>hi.1 q.symm;have h2:¬905=i:=fun q=>hi.2 q.symm;simp only[imS,aH];simp[h1,h2]) rfl (fun i hi=>by
     simp only[O7,Pz,Rf]at hi;rcases hi with rfl|rfl
     ·exact hdom 906 rfl
     ·exact hdom 905 rfl)
   refine⟨by simp,.inl ⟨_,_,rfl,run_takeDeferred hK3,?_⟩⟩;exact⟨_,results_none rfl _ _ _,hR _ _ _ ha5⟩
end Go.AL.Seat
end
section
namespace Go.AL.Seat
open Go Go.AL Go.Proofs Go.Pd
variable [Tabs] [SeatLaid]
theorem vH:ah Tryz.prog 23 (Nc fun se ty va d=>⟨some (ty.length<=500000/\va.length<=500000/\d.items.length<=4000/\∀x∈d.items,allS nmU x.shape=true),none,.tup [],[(900,.box (.agg [.str se,.lst (.st .bind) (ty++bc d.name d.items) (some 901),.lst (.st .bind) (va++dq d.name d.items) (some 902),.nils,.map 903])),(901,.tail (.st .bind) (ty.length+(bc d.name d.items).length)),(902,.tail (.st .bind) (va.length+(dq d.name d.items).length))]⟩):=
 LJ (ee Tryz.func23) fun se ty va d hd ho=>uN (sc Er (sc HM (sc qU sn))) se ty va d (ho _ rfl)
end Go.AL.Seat
end
noncomputable section
namespace Go.Pd
open Go Go.AL
theorem BZ:∀(l:List AL.Item)(n:Int),0<=n->(rn l n).2=true->n+20 *(l.length:Int)<=(rn l n).1/\(rn l n).1<=max n 4000
 |[],n,h0,_=>by simp[rn];omega
 |x::r,n,h0,h=>by
  rw[rn]at h⊢;have hb:1<=sizeF x.shape 800:=(sizeF_bd x.shape 800 (by omega)).1;split at h
  ·cases h
  ·rename_i c;rw[O0 c];obtain⟨h1,h2⟩:=BZ r _ (by omega) h;rw[O8];exact⟨by omega,by omega⟩
theorem C1:∀(l:List Depd)(n i:Int),0<=n->n<=4000->iE l n i=true->∀d∈l,d.items.length<=4000
 |d::r,n,i,h0,h1,h,e,he=>by
  rw[iE]at h;split at h
  ·cases h
  ·split at h
   ·rename_i c;obtain⟨k1,k2⟩:=BZ d.items n h0 c;rcases O7.1 he with rfl|he
    ·omega
    ·exact C1 r _ _ (by omega) (by omega) h e he
   ·cases h
theorem C2:∀(l:List Depd)(n i:Int),iE l n i=true->l=[]∨i+(l.length:Int)<=20
 |[],_,_,_=>.inl rfl
 |d::r,n,i,h=>by
  rw[iE]at h;split at h
  ·cases h
  ·split at h
   ·rcases C2 r _ _ h with q|q
    ·subst q;right;simp only[O8,ON];omega
    ·right;rw[O8];omega
   ·cases h
end Go.Pd
end
section
open Go Go.AL Go.Pd
namespace Go.AL.Seat
theorem Es(bL:List Bndg)(m:Modu)(ds:List Depd)(r:ExC)(hm:Wf (.st .modu) m)(hd:Wf (.lst (.st .dep)) ds)(hb:bL.length<=100)(ho:((m.decls.all cP=true/\m.decls.length<=1000000)/\m.decls.length<=100000/\∀d∈ds,d.items.length<=4000/\∀x∈d.items,allS nmU x.shape=true))(hr:jM bL m ds=r) :
  let A:=(1000000:Nat);let B:=(0:Int);let C:=True;let D:=r.l=[];let E:=B=r.f.pos/\C;let F:=(4000:Nat);let G:=(100:Nat);let H:=vr bL m.name;let I:=m=m;let J:=ds=ds;let K:=bq m=bq m;let L:=false=false;let M:=m.imports=m.imports;let N:=(↑(List.length m.imports):Int);let O:=N=N;let P:=m.name=m.name;let Q:=(0:Nat);let R:=B=B;let S:=den Ty.str×den (Ty.st SN.item);let T:=gD S=gD S;let U:=I/\R/\R/\T/\C;let V:=dfl (Ty.st SN.imp);let W:=(-1:Int);let X:=true=true;let Y:=(↑(List.length ds):Int);let Z:=dfl (Ty.st SN.dep);let a:=(1:Int);let b:=(500000:Nat);let d:=(100000:Nat);let g:=m.decls=m.decls;let h:=(↑(List.length m.decls):Int);let i:=I/\R/\R/\C;let j:=dfl (Ty.st SN.decl);let k:=(fun(x:AL.Item)=>x.name);let n:=(eE m.decls {e:=(gE ds m.imports H).e,m:=[]:Cst});let o:=m.exports=m.exports;let p:=(↑(List.length m.exports):Int);let q:=dfl Ty.str;(List.all m.decls cP=true/\List.length m.decls<=A)/\if(!decide (bq m=B))=true then C/\D/\bq m=r.f.err/\E else(∃(x:Nat×List Bndg×List Bndg),(x.1<=List.length m.imports/\List.length x.2.1<=x.1*F/\List.length x.2.2<=G+x.1*F/\gE ds (List.drop x.1 m.imports) {self:=m.name,types:=x.2.1,values:=x.2.2,own:=[]:Envt}=gE ds m.imports H)/\B=(↑x.1:Int)/\I/\J/\K/\L/\M/\O/\P/\x.2.1=[]/\bL=x.2.2/\List.length x.2.1=Q/\List.length bL=List.length x.2.2/\U)/\∀(x:Nat×List Bndg×List Bndg),let s:=(↑x.1:Int);let t:=Int.toNat s;let u:=List.getD m.imports t V;let v:=s=s;let w:=List.length x.2.1=List.length x.2.1;let z:=List.length x.2.2=List.length x.2.2;let A0:=v/\I/\J/\K/\L/\M/\O/\X/\J/\Y=Y/\P/\x.2.1=x.2.1/\x.2.2=x.2.2/\w/\z/\I/\R/\R/\T/\List.getD m.imports t V=List.getD m.imports t V/\C;let A1:=w/\i;x.1<=List.length m.imports/\List.length x.2.1<=x.1*F/\List.length x.2.2<=G+x.1*F/\gE ds (List.drop x.1 m.imports) {self:=m.name,types:=x.2.1,values:=x.2.2,own:=[]:Envt}=gE ds m.imports H->if decide (s<N)=true then(B<=s/\s<N)/\(∃(x_1:Nat×Int),(x_1.1<=List.length ds/\jN u.name (List.drop x_1.1 ds) x_1.1 x_1.2=jN u.name ds Q W)/\B=(↑x_1.1:Int)/\W=x_1.2/\A0)/\∀(x_1:Nat×Int),let A2:=(↑x_1.1:Int);let A3:=inR IntKind.i64 (A2+a);let A4:=List.getD ds (Int.toNat x_1.2) Z;x_1.1<=List.length ds/\jN u.name (List.drop x_1.1 ds) x_1.1 x_1.2=jN u.name ds Q W->if decide (A2<Y)=true then(B<=A2/\A2<Y)/\if decide ((List.getD ds (Int.toNat A2) Z).name=u.name)=true then A3/\∃(y:Nat×Int),(y.1<=List.length ds/\jN u.name (List.drop y.1 ds) y.1 y.2=jN u.name ds Q W)/\List.length ds-y.1<List.length ds-x_1.1/\A2+a=(↑y.1:Int)/\A2=y.2/\A0 else A3/\∃(y:Nat×Int),(y.1<=List.length ds/\jN u.name (List.drop y.1 ds) y.1 y.2=jN u.name ds Q W)/\List.length ds-y.1<List.length ds-x_1.1/\A2+a=(↑y.1:Int)/\x_1.2=y.2/\A0 else if decide (x_1.2<B)=true then C/\D/\(282:Int)=r.f.err/\u.pos=r.f.pos/\C else(B<=x_1.2/\x_1.2<Y)/\((w/\z)/\List.length x.2.1<=b/\List.length x.2.2<=b/\List.length A4.items<=F/\∀(x:AL.Item),x∈A4.items->allS nmU x.shape=true)/\inR IntKind.i64 (s+a)/\∃(y:Nat×List Bndg×List Bndg),(y.1<=List.length m.imports/\List.length y.2.1<=y.1*F/\List.length y.2.2<=G+y.1*F/\gE ds (List.drop y.1 m.imports) {self:=m.name,types:=y.2.1,values:=y.2.2,own:=[]:Envt}=gE ds m.imports H)/\List.length m.imports-y.1<List.length m.imports-x.1/\s+a=(↑y.1:Int)/\I/\J/\K/\L/\M/\O/\P/\x.2.1++bc A4.name A4.items=y.2.1/\x.2.2++dq A4.name A4.items=y.2.2/\List.length x.2.1+List.length (bc A4.name A4.items)=List.length y.2.1/\List.length x.2.2+List.length (dq A4.name A4.items)=List.length y.2.2/\U else(∃(x_1:Nat×Cst),(x_1.1<=List.length m.decls/\List.length x_1.2.e.types<=d+x_1.1/\List.length x_1.2.e.values<=d+x_1.1/\List.length x_1.2.e.own<=x_1.1/\eE (List.drop x_1.1 m.decls) x_1.2=eE m.decls {e:=(gE ds m.imports H).e,m:=[]:Cst})/\B=(↑x_1.1:Int)/\v/\I/\J/\K/\L/\M/\O/\L/\g/\h=h/\m.name=x_1.2.e.self/\x.2.1=x_1.2.e.types/\x.2.2=x_1.2.e.values/\x_1.2.e.own=[]/\List.length x.2.2=List.length x_1.2.e.values/\List.length x_1.2.e.own=Q/\[]=x_1.2.m/\A1)/\∀(x_1:Nat×Cst),let A2:=(↑x_1.1:Int);let A3:=List.length x_1.2.e.values=List.length x_1.2.e.values;let A4:=List.length x_1.2.e.own=List.length x_1.2.e.own;let A5:=List.getD m.decls (Int.toNat A2) j;let A6:=kW A5 x_1.2;let A7:=x_1.2.e.self=x_1.2.e.self/\x_1.2.e.types=x_1.2.e.types/\x_1.2.e.values=x_1.2.e.values/\x_1.2.e.own=x_1.2.e.own/\A3/\A4/\x_1.2.m=x_1.2.m/\A1;x_1.1<=List.length m.decls/\List.length x_1.2.e.types<=d+x_1.1/\List.length x_1.2.e.values<=d+x_1.1/\List.length x_1.2.e.own<=x_1.1/\eE (List.drop x_1.1 m.decls) x_1.2=eE m.decls {e:=(gE ds m.imports H).e,m:=[]:Cst}->if decide (A2<h)=true then(B<=A2/\A2<h)/\((A3/\A4)/\(A5.kind=a∨A5.kind=(2:Int)∨A5.kind=(3:Int))/\(A5.kind=(3:Int)->cd A5.term=true)/\List.length x_1.2.e.types<=A/\List.length x_1.2.e.values<=A/\List.length x_1.2.e.own<=A)/\if(!decide (A6.f.err=B))=true then C/\D/\A6.f.err=r.f.err/\A6.f.pos=r.f.pos/\C else inR IntKind.i64 (A2+a)/\∃(y:Nat×Cst),(y.1<=List.length m.decls/\List.length y.2.e.types<=d+y.1/\List.length y.2.e.values<=d+y.1/\List.length y.2.e.own<=y.1/\eE (List.drop y.1 m.decls) y.2=eE m.decls {e:=(gE ds m.imports H).e,m:=[]:Cst})/\List.length m.decls-y.1<List.length m.decls-x_1.1/\A2+a=(↑y.1:Int)/\v/\I/\J/\K/\L/\M/\O/\L/\g/\h=h/\A6.c.e.self=y.2.e.self/\A6.c.e.types=y.2.e.types/\A6.c.e.values=y.2.e.values/\A6.c.e.own=y.2.e.own/\List.length A6.c.e.values=List.length y.2.e.values/\List.length A6.c.e.own=List.length y.2.e.own/\A6.c.m=y.2.m/\A1 else(∃(x_2:Nat×List AL.Item),let A8:=List.length x_2.2=Q;(x_2.1<=List.length m.exports/\List.length x_2.2=x_2.1/\List.map k x_2.2=List.take x_2.1 m.exports/\rq m.pos n.c.m (List.drop x_2.1 m.exports) x_2.2=rq m.pos n.c.m m.exports [])/\B=(↑x_2.1:Int)/\A8/\A8/\A2=A2/\v/\I/\J/\K/\L/\M/\O/\L/\g/\h=h/\L/\o/\p=p/\A8/\x_2.2=[]/\A7)/\
  ∀(x_2:Nat×List AL.Item),let A8:=(↑x_2.1:Int);let A9:=cu x_1.2.m (List.getD m.exports (Int.toNat A8) q);let B0:=List.length x_2.2=List.length x_2.2;let B1:=[Option.getD A9 {kind:=B,name:=[],shape:=AL.Shape.mk (B) ([]) ([]) ([]) ([]):AL.Item}];x_2.1<=List.length m.exports/\List.length x_2.2=x_2.1/\List.map k x_2.2=List.take x_2.1 m.exports/\rq m.pos n.c.m (List.drop x_2.1 m.exports) x_2.2=rq m.pos n.c.m m.exports []->if decide (A8<p)=true then(B<=A8/\A8<p)/\if(!Option.isSome A9)=true then C/\D/\(150:Int)=r.f.err/\m.pos=r.f.pos/\C else((B0/\B0)/\(List.length x_2.2+List.length B1)*(112:Nat)<=(140737488355328:Nat))/\inR IntKind.i64 (A8+a)/\∃(y:Nat×List AL.Item),let B2:=List.length x_2.2+List.length B1=List.length y.2;(y.1<=List.length m.exports/\List.length y.2=y.1/\List.map k y.2=List.take y.1 m.exports/\rq m.pos n.c.m (List.drop y.1 m.exports) y.2=rq m.pos n.c.m m.exports [])/\List.length m.exports-y.1<List.length m.exports-x_2.1/\A8+a=(↑y.1:Int)/\B2/\List.length (x_2.2++B1)=List.length y.2/\A2=A2/\v/\I/\J/\K/\L/\M/\O/\L/\g/\h=h/\L/\o/\p=p/\B2/\x_2.2++B1=y.2/\A7 else((B0/\B0)/\List.Nodup (List.map (fun(x:den (Ty.st SN.item))=>x.name) x_2.2)/\List.length x_2.2<=A)/\((B0/\List.length x_2.2=List.length (AN x_2.2))/\C)/\C/\AN x_2.2=r.l/\B=r.f.err/\E:=by
 conv=>zeta
 obtain⟨om,od,oi⟩:=ho;have li:=hm.modu_imports.len;have lx:=hm.modu_exports.len;have ld:=hd.len;unfold jM at hr;simp only[Oi,Pw,OV,OK,OI];refine⟨om,aa (fun h=>?_) (fun h=>?_)⟩
 ·have h:¬bq m=0:=by simpa using h
  rw[O0 h]at hr;subst hr;exact(by repeat' (first|exact trivial|rfl|apply And.intro))
 have h0:bq m=0:=by simpa using h
 rw[O3 h0]at hr;obtain⟨c8,c60,cnd,ckd⟩:=AY h0;unfold GI at hr;obtain⟨I,hI⟩:∃I,I=gE ds m.imports (vr bL m.name):=⟨_,rfl⟩;simp only[<-hI]at hr⊢;refine⟨⟨(0,[],bL),⟨Of _,by simp,by simp only;omega,by rw[hI];rfl⟩,(by repeat' (first|exact trivial|rfl|apply And.intro))⟩,?_⟩;rintro⟨k,ty,va⟩ ⟨h1,h2,h3,h4⟩;simp only at h1 h2 h3 h4⊢;apply aa<;>intro h
 ·have h:=Xo h;have hk:k<m.imports.length:=by omega
  rw[an m.imports k (dfl (.st .imp)) hk]at h4;simp only[gE]at h4;obtain⟨i,hi⟩:∃i,m.imports.getD k (dfl (.st .imp))=i:=⟨_,rfl⟩;simp only[hi]at h4⊢;refine⟨⟨by omega,h⟩,⟨(0,-1),⟨Of _,rfl⟩,(by repeat' (first|exact trivial|rfl|apply And.intro))⟩,?_⟩;rintro⟨j,a⟩ ⟨g1,g2⟩;simp only at g1 g2⊢;apply aa<;>intro q
  ·have q:=Xo q;have hj:j<ds.length:=by omega
   rw[an ds j (dfl (.st .dep)) hj]at g2;simp only[jN]at g2;refine⟨⟨by omega,q⟩,aa (fun c=>?_) (fun c=>?_)⟩
   ·rw[O3 (Xo c)]at g2;exact⟨aA hj ld,(j+1,j),⟨hj,g2⟩,by simp only;omega,by simp only;omega,rfl⟩
   ·rw[O0 (fun e=>c (Xd e))]at g2;exact⟨aA hj ld,(j+1,a),⟨hj,g2⟩,by simp only;omega,by simp only;omega,rfl⟩
  ·have q:¬((j:Int)<(ds.length:Int)):=fun e=>q (Xd e);have e:j=ds.length:=by omega
   subst e;rw[Ol]at g2;simp only[jN]at g2;have sp:=wL i.name ds 0 (-1);rw[<-g2]at sp;apply aa<;>intro c
   ·have c:=Xo c;rcases sp with⟨e1,_⟩|⟨t,e1,e2,_⟩
    ·rw[e1]at h4;simp only at h4;rw[<-h4,O0 (by show ¬(282:Int)=0;decide)]at hr;subst hr;exact(by repeat' (first|exact trivial|rfl|apply And.intro))
    ·omega
   ·have c:¬a<0:=fun e=>c (Xd e);rcases sp with⟨_,e2⟩|⟨t,e1,e2,e3⟩
    ·omega
    ·have ea:a.toNat=t:=by omega
     have ot:=oi _ (getD_mem ds t (dfl (.st .dep)) e1);rw[ea];rw[e3]at h4;simp only[impD]at h4;have tl:=kX (ds.getD t (dfl (.st .dep))).name (ds.getD t (dfl (.st .dep))).items;have vl:=qb (ds.getD t (dfl (.st .dep))).name (ds.getD t (dfl (.st .dep))).items;have hk4:k *4000<=32000:=by omega
     exact⟨by omega,⟨by omega,by omega,ot.1,ot.2⟩,aA hk li,(k+1,ty++_,va++_),⟨hk,by simp only[Oj];omega,by simp only[Oj];omega,h4⟩,by simp only;omega,by simp only;omega,rfl,rfl,by simp only[Oj],by simp only[Oj]⟩
 ·have h:¬((k:Int)<(m.imports.length:Int)):=fun e=>h (Xd e);have e0:k=m.imports.length:=by omega
  subst e0;rw[Ol]at h4;simp only[gE]at h4;simp only[<-h4]at hr⊢;rw[O3 (show cQ.err=0 from rfl)]at hr;obtain⟨D,hD⟩:∃D,D=eE m.decls ⟨⟨m.name,ty,va,[]⟩,[]⟩:=⟨_,rfl⟩;simp only[<-hD]at hr⊢;have its:Its D.c.m:=by rw[hD];exact AP _ LK
  have hk4:m.imports.length *4000<=32000:=by omega
  refine⟨⟨(0,⟨⟨m.name,ty,va,[]⟩,[]⟩),⟨Of _,by simp only;omega,by simp only;omega,Od _,hD.symm⟩,(by repeat' (first|exact trivial|rfl|apply And.intro))⟩,?_⟩;rintro⟨k,c⟩ ⟨h1,h5,h6,h7,h8⟩;simp only at h1 h5 h6 h7 h8⊢;apply aa<;>intro h
  ·have h:=Xo h;have hk:k<m.decls.length:=by omega
   have hmm:=getD_mem m.decls k (dfl (.st .decl)) hk;rw[an m.decls k (dfl (.st .decl)) hk]at h8;simp only[eE]at h8;obtain⟨d,hdd⟩:∃d,m.decls.getD k (dfl (.st .decl))=d:=⟨_,rfl⟩;simp only[hdd]at h8 hmm⊢;have gr:=Nd d c;refine⟨⟨by omega,h⟩,⟨ckd d hmm,fun _=>(Aq (O9.1 om.1 d hmm)).2,by omega,by omega,by omega⟩,aa (fun f=>?_) (fun f=>?_)⟩
   ·have f:¬(kW d c).f.err=0:=by simpa using f
    rw[O0 f]at h8;rw[<-h8,O0 f]at hr;subst hr;exact(by repeat' (first|exact trivial|rfl|apply And.intro))
   ·have f:(kW d c).f.err=0:=by simpa using f
    rw[O3 f]at h8;exact⟨aU (by omega) (by omega),(k+1,(kW d c).c),⟨hk,by have:=gr.ty;simp only;omega,by have:=gr.va;simp only;omega,by have:=gr.ow;simp only;omega,h8⟩,by simp only;omega,by simp only;omega,(by repeat' (first|exact trivial|rfl|apply And.intro))⟩
  ·have h:¬((k:Int)<(m.decls.length:Int)):=fun e=>h (Xd e);have e0:k=m.decls.length:=by omega
   subst e0;rw[Ol]at h8;simp only[eE]at h8;subst h8;rw[O3 (show cQ.err=0 from rfl)]at hr;simp only at hr its⊢;refine⟨⟨(0,[]),⟨Of _,rfl,rfl,rfl⟩,(by repeat' (first|exact trivial|rfl|apply And.intro))⟩,?_⟩;rintro⟨k,xs⟩ ⟨g1,g2,g3,g4⟩;simp only at g1 g2 g3 g4⊢;apply aa<;>intro h
   ·have h:=Xo h;have hk:k<m.exports.length:=by omega
    rw[an m.exports k (dfl .str) hk]at g4;simp only[rq]at g4;obtain⟨n,hn⟩:∃n,m.exports.getD k (dfl .str)=n:=⟨_,rfl⟩;have tk:=cD m.exports k (dfl .str) hk;simp only[hn]at g4 tk⊢;refine⟨⟨by omega,h⟩,aa (fun q=>?_) (fun q=>?_)⟩
    ·have e1:cu (K:=Str) c.m n=none:=by
      cases z:cu (K:=Str) c.m n with
      |none=>rfl
      |some x=>rw[z]at q;cases q
     rw[e1]at g4;simp only at g4;rw[<-g4]at hr;subst hr;exact(by repeat' (first|exact trivial|rfl|apply And.intro))
    ·obtain⟨x,z⟩:∃x,cu (K:=Str) c.m n=some x:=by
      cases z:cu (K:=Str) c.m n with|none=>rw[z]at q;exact absurd rfl q|some x=>exact⟨x,rfl⟩
     rw[z]at g4;simp only at g4;simp only[z,OX];refine⟨by omega,aA hk lx,(k+1,xs++[x]),⟨hk,by simp only[Oj,OI];omega,?_,g4⟩,by simp only;omega,by simp only;omega,by simp only[Oj,OI],by simp only[Oj,OI],by simp only[Oj,OI];exact(by repeat' (first|exact trivial|rfl|apply And.intro))⟩;rw[tk,<-g3,Q1,QF,LB its z]
   ·have h:¬((k:Int)<(m.exports.length:Int)):=fun e=>h (Xd e);have e0:k=m.exports.length:=by omega
    subst e0;rw[Ol]at g4;simp only[rq]at g4;rw[<-g4]at hr;unfold endI at hr;rw[O3 (show cQ.err=0 from rfl)]at hr;subst hr;rw[OY]at g3;exact⟨⟨by show(xs.map (·.name)).Nodup;rw[g3];exact cnd,by omega⟩,by rw[AN,List.length_mergeSort],(by repeat' (first|exact trivial|rfl|apply And.intro))⟩
end Go.AL.Seat
end
section
open Go Go.AL Go.Proofs Go.Shelf Go.Pd
namespace Go.AL.Seat
variable [Tabs]
variable [SeatLaid]
theorem Et:Enters Tryz.prog 9:=ee Tryz.func9
theorem vI(bL:List Bndg)(m:Modu)(ds:List Depd)(r:ExC)(hm:Wf (.st .modu) m)(hd:Wf (.lst (.st .dep)) ds)(hb:bL.length<=100)(ho:((m.decls.all cP=true/\m.decls.length<=1000000)/\m.decls.length<=100000/\∀d∈ds,d.items.length<=4000/\∀x∈d.items,allS nmU x.shape=true))(hr:jM bL m ds=r)(hB:ah Tryz.prog 22 (p0 ⟨none,none,.lst (.st .bind) bL (some 61),[(61,.tail (.st .bind) bL.length)]⟩)):ak Tryz.prog 9 [.st .modu m,.lst (.st .dep) ds none] [] (⟨some ((m.decls.all cP=true/\m.decls.length<=1000000)/\m.decls.length<=100000/\∀d∈ds,d.items.length<=4000/\∀x∈d.items,allS nmU x.shape=true),none,.tup [.lst (.st .item) r.l none,.agg [.int .i64 r.f.err,.int .i64 r.f.pos]],[]⟩):=
 g1 nn (fun _=>[]) nn (fun d=>Nat.beq d 107) nn (sc (nZ) (sc (hB) (sc (vH) (sc (vG) (sc (GQ) sn))))) ⟨[(6,fun S0=>⟨Nat×(List Bndg×List Bndg),fun x=>x.1<=m.imports.length/\x.2.1.length<=x.1 *4000/\x.2.2.length<=100+x.1 *4000/\gE ds (m.imports.drop x.1) ⟨m.name,x.2.1,x.2.2,[]⟩=(gE ds m.imports (vr bL m.name)),fun x=>[(38,.int .i64 x.1)],fun x=>[(34,.box (.agg [.str m.name,.lst (.st .bind) x.2.1 (some 701),.lst (.st .bind) x.2.2 (some 62029),.nils,.map 32])),(701,.tail (.st .bind) x.2.1.length),(62029,.tail (.st .bind) x.2.2.length)],fun x=>m.imports.length-x.1⟩),(10,fun S0=>oz S0 38 fun i=>⟨Nat×Int,fun x=>x.1<=ds.length/\jN (m.imports.getD i.toNat (dfl (.st .imp))).name (ds.drop x.1) x.1 x.2=jN (m.imports.getD i.toNat (dfl (.st .imp))).name ds 0 (-1),fun x=>[(44,.int .i64 x.1),(10,.int .i64 x.2)],fun _=>[],fun x=>ds.length-x.1⟩),(20,fun S0=>⟨Nat×Cst,fun x=>x.1<=m.decls.length/\x.2.e.types.length<=100000+x.1/\x.2.e.values.length<=100000+x.1/\x.2.e.own.length<=x.1/\eE (m.decls.drop x.1) x.2=(eE m.decls ⟨(gE ds m.imports (vr bL m.name)).e,[]⟩),fun x=>[(71,.int .i64 x.1)],fun x=>[(34,.box (.agg [.str x.2.e.self,.lst (.st .bind) x.2.e.types none,.lst (.st .bind) x.2.e.values (some 62029),.lst (.st .bind) x.2.e.own (some 702),.map 32])),(62029,.tail (.st .bind) x.2.e.values.length),(702,.tail (.st .bind) x.2.e.own.length),(32,.map .str (.st .item) x.2.m)],fun x=>m.decls.length-x.1⟩),(28,fun S0=>⟨Nat×List AL.Item,fun x=>x.1<=m.exports.length/\x.2.length=x.1/\x.2.map (·.name)=m.exports.take x.1/\rq m.pos (eE m.decls ⟨(gE ds m.imports (vr bL m.name)).e,[]⟩).c.m (m.exports.drop x.1) x.2=rq m.pos (eE m.decls ⟨(gE ds m.imports (vr bL m.name)).e,[]⟩).c.m m.exports [],fun x=>[(86,.int .i64 x.1),(16,.glst x.2.length x.2.length 703)],fun x=>[(703,.grow (.st .item) x.2.length x.2)],fun x=>m.exports.length-x.1⟩)],[(400036,[703,16])],[]⟩ Tryz.func9 (Es bL m ds r hm hd hb ho hr)
theorem C3(bL:List Bndg)(hb:bL.length<=100)(hB:ah Tryz.prog 22 (p0 ⟨none,none,.lst (.st .bind) bL (some 61),[(61,.tail (.st .bind) bL.length)]⟩)):ah Tryz.prog 9 (p2 (.st .modu) (.lst (.st .dep)) fun m ds=>⟨some ((m.decls.all cP=true/\m.decls.length<=1000000)/\m.decls.length<=100000/\∀d∈ds,d.items.length<=4000/\∀x∈d.items,allS nmU x.shape=true),none,.tup [.lst (.st .item) (jM bL m ds).l none,.agg [.int .i64 (jM bL m ds).f.err,.int .i64 (jM bL m ds).f.pos]],[]⟩):=
 ca Et fun m ds hm hd ho=>vI bL m ds _ hm hd hb (ho _ rfl) rfl hB
end Go.AL.Seat
end
section
namespace Go.Proofs
open Go.Shelf
def Tryz.sortfU_ren:Go.Shelf.Ren:=⟨fun|6=>77|15=>63|14=>134|28=>113|29=>114|20=>174|21=>175|22=>176|23=>177|24=>178|25=>179|26=>180|27=>181|46=>226|47=>152|48=>153|49=>227|50=>228|57=>268|n=>n,fun|22=>54|24=>97|25=>108|3=>3|39=>136|0=>0|53=>187|55=>189|4=>4|46=>180|45=>179|50=>184|5=>5|9=>9|66=>228|70=>232|76=>270|77=>217|n=>n,fun|n=>n⟩
theorem Tryz.sortfU:Go.Proofs.SlLaysF0.n6 Tryz.prog Tryz.sortfU_ren:={
 mixed:=by kernel_rfl
 f6:=⟨Tryz.f77.name,by decide,Xt Tryz.func77⟩
 f14:=⟨Tryz.f134.name,by decide,Xt Tryz.func134⟩
 f15:=Xt Tryz.func63
 f20:=⟨Tryz.f174.name,by decide,Xt Tryz.func174⟩
 f21:=⟨Tryz.f175.name,by decide,Xt Tryz.func175⟩
 f22:=⟨Tryz.f176.name,by decide,Xt Tryz.func176⟩
 f23:=⟨Tryz.f177.name,by decide,Xt Tryz.func177⟩
 f24:=⟨Tryz.f178.name,by decide,Xt Tryz.func178⟩
 f25:=⟨Tryz.f179.name,by decide,Xt Tryz.func179⟩
 f26:=⟨Tryz.f180.name,by decide,Xt Tryz.func180⟩
 f27:=⟨Tryz.f181.name,by decide,Xt Tryz.func181⟩
 f28:=Xt Tryz.func113
 f29:=Xt Tryz.func114
 f46:=⟨Tryz.f226.name,by decide,Xt Tryz.func226⟩
 f47:=Xt Tryz.func152
 f48:=Xt Tryz.func153
 f49:=⟨Tryz.f227.name,by decide,Xt Tryz.func227⟩
 f50:=⟨Tryz.f228.name,by decide,Xt Tryz.func228⟩
 f57:=⟨Tryz.f268.name,by decide,Xt Tryz.func268⟩
 t0:=Tryz.underlying0
 a0:=Tryz.isAgg0
 z0:=Tryz.sizeOf0
 v0:=Tryz.zeroValue0
 t3:=Tryz.underlying3
 a3:=Tryz.isAgg3
 z3:=Tryz.sizeOf3
 v3:=Tryz.zeroValue3
 t4:=Tryz.underlying4
 a4:=Tryz.isAgg4
 z4:=Tryz.sizeOf4
 v4:=Tryz.zeroValue4
 t5:=Tryz.underlying5
 a5:=Tryz.isAgg5
 z5:=Tryz.sizeOf5
 v5:=Tryz.zeroValue5
 t9:=Tryz.underlying9
 a9:=Tryz.isAgg9
 z9:=Tryz.sizeOf9
 v9:=Tryz.zeroValue9
 t22:=Tryz.underlying54
 a22:=Tryz.isAgg54
 z22:=Tryz.sizeOf54
 v22:=Tryz.zeroValue54
 t25:=Tryz.underlying108
 a25:=Tryz.isAgg108
 z25:=Tryz.sizeOf108
 v25:=Tryz.zeroValue108
 t39:=Tryz.underlying136
 a39:=Tryz.isAgg136
 z39:=Tryz.sizeOf136
 v39:=Tryz.zeroValue136
 t45:=Tryz.underlying179
 a45:=Tryz.isAgg179
 z45:=Tryz.sizeOf179
 v45:=Tryz.zeroValue179
 t46:=Tryz.underlying180
 a46:=Tryz.isAgg180
 z46:=Tryz.sizeOf180
 v46:=Tryz.zeroValue180
 t50:=Tryz.underlying184
 a50:=Tryz.isAgg184
 z50:=Tryz.sizeOf184
 v50:=Tryz.zeroValue184
 t53:=Tryz.underlying187
 a53:=Tryz.isAgg187
 z53:=Tryz.sizeOf187
 v53:=Tryz.zeroValue187
 t55:=Tryz.underlying189
 a55:=Tryz.isAgg189
 z55:=Tryz.sizeOf189
 v55:=Tryz.zeroValue189
 t66:=Tryz.underlying228
 a66:=Tryz.isAgg228
 z66:=Tryz.sizeOf228
 v66:=Tryz.zeroValue228
 t70:=Tryz.underlying232
 a70:=Tryz.isAgg232
 z70:=Tryz.sizeOf232
 v70:=Tryz.zeroValue232
 t76:=Tryz.underlying270
 a76:=Tryz.isAgg270
 z76:=Tryz.sizeOf270
 v76:=Tryz.zeroValue270
 t77:=Tryz.underlying217
 a77:=Tryz.isAgg217
 z77:=Tryz.sizeOf217
 v77:=Tryz.zeroValue217}
end Go.Proofs
end
section
namespace Go.Proofs
open Go.RowKit Go.Shelf Go.AL Go.Sort Go.Pd Go.Lib
set_option maxHeartbeats 4000000
theorem Tryz.isNaN60(x:ByteArray)(w:World):Calls Tryz.prog 79 #[.string x] w fun e w'=>e=.returned (.bool false)/\w'=w:=by
 go_enter Tryz.func79,Tryz.ntmps79
 go_wp2
 go_ret
 exact⟨by simp,rfl⟩
theorem pb(t:TypeId)(a b:ByteArray):binOp .gtr t (.string a) (.string b)=pure (.bool !(Op.bytesLess a.toList b.toList||a.toList ==b.toList)):=by simp[binOp,Op.stringOp]
attribute [local go_sem] pb
theorem jD:∀a b:List UInt8,compareBytes a b=if Op.bytesLess a b=true then -1 else if(!(Op.bytesLess a b||a ==b))=true then 1 else 0
 |[],[]=>by simp[compareBytes,Op.bytesLess]
 |[],_::_=>by simp[compareBytes,Op.bytesLess]
 |_::_,[]=>by simp[compareBytes,Op.bytesLess]
 |a::r,b::s=>by
  simp only[compareBytes,Op.bytesLess];by_cases h1:a<b
  ·simp[h1]
  ·by_cases h2:b<a
   ·have:a≠b:=fun e=>by subst e;exact h1 h2
    simp[h1,h2,this]
   ·have:a=b:=RF (R6.1 h2) (R6.1 h1);subst this;simp only[h1,OL,jD r s];simp
theorem Tryz.cmp31(x y:ByteArray)(w:World):Calls Tryz.prog 42 #[.string x,.string y] w fun e w'=>e=.returned (.int .i64 (compareBytes x.data.toList y.data.toList))/\w'=w:=by
 have e0:=jD x.toList y.toList;rw[Lib.toList_data,Lib.toList_data]at e0
 go_enter Tryz.func42,Tryz.ntmps42
 go_wp2_with (go_at_call 79;refine(Tryz.isNaN60 _ _).mono ?_;rintro e w' ⟨rfl,rfl⟩)
 all_goals (go_ret;refine⟨?_,rfl⟩;simp_all [Lib.toList_data])
theorem Tryz.or30(b o:Nat)(x y r:Int)(w:World)(hr:(if x=0 then y else x)=r)(h0:w.cell? ⟨b,o,none⟩=some (.int .i64 x))(h1:w.cell? ⟨b,o+1,none⟩=some (.int .i64 y)) :
  Calls Tryz.prog 41 #[.slice (some ⟨b,o,none⟩) 2 2] w fun e w'=>e=.returned (.int .i64 r)/\w'=w:=by
 subst hr
 go_enter Tryz.func41,Tryz.ntmps41
 go_wp2
 go_rounds 3
 all_goals (go_ret;simp_all)
theorem NV(w:World)(A B C:Obj):(((w.alloc A).alloc B).alloc C).drew=grow (w.drewN 1) #[A,B,C]:=by rw[alloc_eq_grow,alloc_eq_grow,alloc_eq_grow,grow_grow,grow_grow];rfl
theorem Tryz.cmp29(a1 a2 b1 b2:ByteArray)(r:Int)(hr0:(if compareBytes a1.data.toList b1.data.toList=0 then compareBytes a2.data.toList b2.data.toList else compareBytes a1.data.toList b1.data.toList)=r)(w:World) :
  Calls Tryz.prog 40 #[.agg #[.string a1,.string a2],.agg #[.string b1,.string b2]] w fun e w'=>e=.returned (.int .i64 r)/\∃q os',w'=grow (w.drewN q) os':=by
 go_enter Tryz.func40,Tryz.ntmps40
 go_wp2
 obtain⟨W,hW⟩:∃W,(w.alloc (.cells #[.string a1,.string a2] 97)).alloc (.cells #[.string b1,.string b2] 97)=W:=⟨_,rfl⟩;have h1:W.cell? ⟨w.heap.size,0,none⟩=some (.string a1):=by rw[<-hW];simp[go_sem]
 have h2:W.cell? ⟨w.heap.size,1,none⟩=some (.string a2):=by rw[<-hW];simp[go_sem]
 have h3:W.cell? ⟨w.heap.size+1,0,none⟩=some (.string b1):=by rw[<-hW];simp[go_sem]
 have h4:W.cell? ⟨w.heap.size+1,1,none⟩=some (.string b2):=by rw[<-hW];simp[go_sem]
 rw[hW];obtain⟨u,hu⟩:∃u,compareBytes a1.data.toList b1.data.toList=u:=⟨_,rfl⟩;obtain⟨v,hv⟩:=(⟨_,rfl⟩:∃v,compareBytes a2.data.toList b2.data.toList=v);have hr:(if u=0 then v else u)=r:=by rw[<-hu,<-hv];exact hr0
 clear hr0
 go_region_held3 (fun w'=>w'.cell? ⟨w.heap.size,0,none⟩=some (.string a1)/\w'.cell? ⟨w.heap.size,1,none⟩=some (.string a2)/\w'.cell? ⟨w.heap.size+1,0,none⟩=some (.string b1)/\w'.cell? ⟨w.heap.size+1,1,none⟩=some (.string b2)) (go_keep)
  (first|(go_at_call 42;refine(Tryz.cmp31 _ _ _).mono ?_;rintro e w' ⟨rfl,rfl⟩)|(go_at_call 41;refine(Tryz.or30 W.heap.size 0 u v r _ hr (by show(W.alloc _).cell? ⟨W.heap.size,0,none⟩=_;simp[go_sem]) (by show(W.alloc _).cell? ⟨W.heap.size,0+1,none⟩=_;simp[go_sem])).mono ?_;rintro e w' ⟨rfl,rfl⟩))
 go_wp2
 go_ret
 subst hW;exact⟨rfl,1,_,NV _ _ _ _⟩
def cfU(x y:Nam):Int:=if compareBytes x.pkg y.pkg=0 then compareBytes x.name y.name else compareBytes x.pkg y.pkg
def nt(x:Nam):List Value:=[.string ⟨x.pkg.toArray⟩,.string ⟨x.name.toArray⟩]
theorem Tryz.cmpLays(blk off size:Nat)(w:World):CmpLays Tryz.prog 40 #[] nt 2 cfU blk off size w:=fun m os dk _ x y=>
 Tryz.cmp29 ⟨x.pkg.toArray⟩ ⟨x.name.toArray⟩ ⟨y.pkg.toArray⟩ ⟨y.name.toArray⟩ _ rfl _
theorem jE:∀{a b:List UInt8},compareBytes a b=0->a=b
 |[],[],_=>rfl
 |[],_::_,h=>by simp[compareBytes]at h
 |_::_,[],h=>by simp[compareBytes]at h
 |a::r,b::s,h=>by
  simp only[compareBytes]at h;by_cases h1:a<b
  ·simp[h1]at h
  ·by_cases h2:b<a
   ·simp[h1,h2]at h
   ·have:a=b:=RF (R6.1 h2) (R6.1 h1);subst this;simp only[h1,OL]at h;rw[jE h]
theorem pc(a:List UInt8):compareBytes a a=0:=by
 induction a with
 |nil=>rfl
 |cons x r ih=>simp[compareBytes,Q9,ih]
variable [Tabs]
theorem pd(x y:Nam):ltOf cfU x y=ltU x y:=by
 unfold ltOf cfU ltU;by_cases h:compareBytes x.pkg y.pkg=0
 ·have e:=jE h;rw[O3 h,dz,e];simp[List.lt_irrefl]
 ·have e:x.pkg≠y.pkg:=fun q=>h (by rw[q];exact pc _);rw[O0 h,dz];simp[e]
theorem swoU:SWO (ltOf cfU):=by
 refine⟨fun x=>by rw[pd,kU],fun x y z h k=>?_,fun x y z h k=>?_⟩
 ·rw[pd]at *;exact nU h k
 ·rw[pd]at *
  rcases PQ (ltU x z)with q|q
  ·rcases mK x y with t|t|t
   ·rw[t]at h;cases h
   ·subst t;rw[q]at k;cases k
   ·rw[nU t q]at k;cases k
  ·exact q
end Go.Proofs
end
section
namespace Go.Proofs
open Go.RowKit Go.Shelf Go.AL Go.Maps Go.ChangeMaps
variable [Tabs]
attribute [local go_sem] Oper.semAt_some
set_option maxHeartbeats 4000000
def qe(x:Nam):Value:=.agg #[.string ⟨x.pkg.toArray⟩,.string ⟨x.name.toArray⟩]
structure KeysU(es:Array MapEntry)(clock:Nat)(ks:List Nam):Prop where
 size:es.size=ks.length
 key:∀(i:Nat)(e:MapEntry)(k:Nam),es[i]?=some e->ks[i]?=some k->e.key=qe k
 idx:∀(i:Nat)(e:MapEntry),es[i]?=some e->e.born=i
 top:clock=es.size
theorem KeysU.old{es:Array MapEntry}{clock:Nat}{ks:List Nam}(h:KeysU es clock ks):∀x∈es.toList,x.born<clock:=fun x hx=>by
 obtain⟨i,hi,rfl⟩:=PZ hx;have hi':i<es.size:=by simpa using hi
 have:=h.idx i es[i] (Oz hi');rw[Rj,this,h.top];exact hi'
theorem KeysU.nodup{es:Array MapEntry}{clock:Nat}{ks:List Nam}(h:KeysU es clock ks):(es.toList.map (·.born)).Nodup:=by
 rw[PA,Q5,Pb];intro i j hi hj hij e;have hi':i<es.size:=by simpa using hi
 have hj':j<es.size:=by simpa using hj
 have a:=h.idx i es[i] (Oz hi');have b:=h.idx j es[j] (Oz hj');simp only[Rj]at e;omega
def jF(ks:List Nam)(i:Nat):Nam:=ks.getD i default
def Ms(bm r:Nat)(w:World):Nat:=
 match w.heap[bm]?,w.heap[r]? with
 |some (.map es _),some (.mapIter _ _ seen _)=>(leftOf es seen).size
 |_,_=>0
theorem KeysU.done{es:Array MapEntry}{clock:Nat}{ks:List Nam}(h:KeysU es clock ks){seen:Array Nat}(hn:seen.toList.Nodup)(hb:∀i∈seen.toList,i<ks.length)(h0:(leftOf es seen).size=0) :
  (seen.toList.map (jF ks)).Perm ks:=by
 have all:∀i,i<ks.length->i∈seen.toList:=fun i hi=>by
  have hi':i<es.size:=by rw[h.size];exact hi
  rcases PQ (seen.contains i)with q|q
  ·simpa using q
  ·have hm:es[i]∈(leftOf es seen).toList:=by unfold leftOf;simp only[Q0,OO];refine⟨by simp,?_⟩;rw[h.idx i es[i] (Oz hi'),q];rfl
   rw[<-PE]at h0;rw[Ps.1 h0]at hm;cases hm
 have hp:seen.toList.Perm (List.range ks.length):=
  (List.perm_ext_iff_of_nodup hn List.nodup_range).2 fun i=>⟨fun q=>Py.2 (hb i q),fun q=>all i (Py.1 q)⟩
 have e:(List.range ks.length).map (jF ks)=ks:=by
  apply List.ext_getElem
  ·simp
  ·intro i h1 h2;simp[jF,O4,NY h2]
 have:=hp.map (jF ks);rw[e]at this;exact this
structure StepU(bm r clock:Nat)(es:Array MapEntry)(seen:Array Nat)(w:World)(e:MapEntry)(w2:World):Prop where
 mem:e∈(leftOf es seen).toList
 it:w2.heap[r]?=some (.mapIter (some bm) clock (seen.push e.born) clock)
 grown:w.grownBy w2 (some r)
structure DoneU(es:Array MapEntry)(seen:Array Nat):Prop where
 none:(leftOf es seen).size=0
theorem lenU:∀(n:Nat)(l:List Nat),l.Nodup->(∀i∈l,i<n)->l.length<=n
 |0,l,_,h=>by
  cases l with|nil=>exact Od _|cons a r=>have:=h a (by simp);omega
 |n+1,l,hn,h=>by
  have h1:=lenU n (l.erase n) (hn.erase n) (fun i hi=>by
   rw[hn.erase_eq_filter,OO]at hi;have:=h i hi.1;have h2:i≠n:=by simpa using hi.2
   omega)
  by_cases hm:n∈l
  ·rw[List.length_erase_of_mem hm]at h1;omega
  ·rw[List.erase_of_not_mem hm]at h1;omega
section
variable {F:Fence} {n:Nat} {P:Program} {ops:Array Oper} {Q:Exit->Act->World->Prop} {o:Oper} {rest:List Oper} {a:Act} (w:World)
theorem qf(hg:o.guard=none)(m:Operand)(t:TypeId)(hop:o.op=Op.range t m)(k e:TypeId)(ht:P.underlying t=some (.map k e))(b:Nat)(es:Array MapEntry)(clock:Nat)
 (hm:a.eval m=.map (some b))(hb:w.heap[b]?=some (.map es clock))
 (hK:wpListIn F n P ops Q rest (a.put o.dst (.pointer (some ⟨w.heap.size,0,none⟩))) (w.alloc (.mapIter (some b) clock #[] clock))) :
  wpListIn F n P ops Q (o::rest) a w:=by
 refine wpListIn_plain hg fun K' hK'=>?_;have hrun:=run_range_map (P:=P) w t k e b es clock ht hb;unfold Oper.wpIn;refine⟨?_,?_⟩
 ·simp[Oper.about,hop]
 ·rw[Oper.semAt_plain F _ _ (by rw[hop];intro c hc';cases hc')];simp[execOp,hop,hm,hrun,Result.andThen];exact hK' _ _ hK
theorem rv(hg:o.guard=none)(it:Operand)(hop:o.op=Op.next it false)(r bm clock c0:Nat)(seen:Array Nat)(es:Array MapEntry)
 (hit:a.eval it=.pointer (some ⟨r,0,none⟩))(hr:w.heap[r]?=some (.mapIter (some bm) clock seen c0))(hb:w.heap[bm]?=some (.map es clock))(hold:∀x∈es.toList,x.born<clock)(hsc:clock<=c0)
 (hDone:DoneU es seen->wpListIn F n P ops Q rest (a.put o.dst (.tuple #[.bool false])) w)
 (hMore:∀(e:MapEntry)(w2:World),StepU bm r clock es seen w e w2->wpListIn F n P ops Q rest (a.put o.dst (.tuple #[.bool true,e.key,e.val])) w2) :
  wpListIn F n P ops Q (o::rest) a w:=by
 refine wpListIn_plain hg fun K' hK'=>?_;unfold Oper.wpIn;refine⟨by simp[Oper.about,hop],?_⟩;rw[Oper.semAt_plain F _ _ (by rw[hop];intro c hc';cases hc')];rcases run_next_at (P:=P) w o.type r bm clock c0 seen es clock hr hb hold hsc with⟨h0,hrun⟩|⟨e,he,w1,hw1,hrun⟩
 ·simp[execOp,hop,hit,hrun,Result.andThen];exact hK' _ _ (hDone ⟨h0⟩)
 ·simp[execOp,hop,hit,hrun,Result.andThen]
  have hrl:r<w.heap.size:=by
   rcases O5 r w.heap.size with h|h
   ·exact h
   ·rw[OM h]at hr;cases hr
  have hh:w1.heap=w.heap:=by rcases hw1 with rfl|rfl<;>rfl
  refine hK' _ _ (hMore e _ ⟨he,?_,?_⟩)
  ·show(w1.heap.setIfInBounds r _)[r]?=_;rw[hh];simp[hrl]
  ·refine⟨?_,?_,?_,?_,fun k hk hne=>?_⟩
   ·rcases hw1 with rfl|rfl<;>rfl
   ·rcases hw1 with rfl|rfl<;>rfl
   ·rcases hw1 with rfl|rfl<;>rfl
   ·show _<=(w1.heap.setIfInBounds r _).size;rw[hh];simp
   ·show(w1.heap.setIfInBounds r _)[k]?=_;rw[hh,R7 (fun e=>hne (by rw[e]))]
end
theorem Tryz.ukeys1(F:Fence)(n:Nat)(h59:F.fn 78)(hro:F.round=none)(hn:1<=n)(l Bm off bm:Nat)(es:Array MapEntry)(clock:Nat)(ks:List Nam)(hK:KeysU es clock ks)(J:List Nam->World->Prop)
 (hY:∀pre x W,J pre W->pre.length<ks.length->YieldAt F (n-1) Tryz.prog l #[qe x] W fun e W'=>e=.returned (.bool true)/\J (pre++[x]) W'/\KeepsWalks W W')
 (W:World)(hJ:AbidesFrom W.heap.size J)(hm:W.cell? ⟨Bm,off,none⟩=some (.map (some bm)))(hb:W.heap[bm]?=some (.map es clock))(h0:J [] W) :
  CallsIn F n Tryz.prog 78 #[.func (.yield l) #[] #[],.pointer (some ⟨Bm,off,none⟩)] W fun e W'=>(∃v,e=.returned v)/\∃ss:List Nam,ss.Perm ks/\J ss W':=by
 have hbm:bm<W.heap.size:=by
  rcases O5 bm W.heap.size with h|h
  ·exact h
  ·rw[OM h]at hb;cases hb
 refine callsIn_of_wp Tryz.func78 rfl h59 ?_ hro;simp only[Tryz.ntmps78,PB,O8,ON,Nat.reduceAdd,Nat.reduceSub,Pu,Pv,PH,Px,Pn,OQ]
 gi_wp2_with (first
  |(gi_at_range;refine qf _ rfl _ 100 rfl 97 3 Tryz.underlying100 bm es clock rfl hb ?_)
  |gi_in)
 go_frame
 gi_loopw [3] (fun _ wr=>∃(seen:Array Nat)(c0:Nat),wr.heap[W.heap.size]?=some (.mapIter (some bm) clock seen c0)/\clock<=c0/\wr.heap[bm]?=some (.map es clock)/\seen.toList.Nodup/\(∀i∈seen.toList,i<ks.length)/\J (seen.toList.map (jF ks)) wr)
  (fun _ wr=>Ms bm W.heap.size wr)
 case atStart=>
  refine⟨#[],clock,heap_alloc_new _ _,Od _,(heap_alloc_old _ _ hbm).trans hb,List.nodup_nil,by simp,hJ [] W _ none h0 (Rr W _ none) (fun r e=>by cases e)⟩
 case round=>
  obtain⟨seen,c0,hit,hc0,hbw,hnd,hlt,hJs⟩:=hrel
  gi_wp2_with (first
   |(gi_at_next;refine rv _ rfl _ rfl W.heap.size bm clock c0 seen es rfl hit hbw hK.old hc0 ?_ ?_)
   |gi_in)
  ·
   intro hl0
   gi_wp2
   go_end0
   exact⟨⟨_,rfl⟩,_,hK.done hnd hlt hl0.none,hJs⟩
  ·
   intro e w2 hs;have hes:e∈es.toList:=by have:=hs.mem;unfold leftOf at this;simp only[Q0,OO]at this;exact this.1
   have hns:e.born∉seen.toList:=by have:=hs.mem;unfold leftOf at this;simp only[Q0,OO]at this;simpa using this.2
   obtain⟨i,hi,hei⟩:=PZ hes;have hi':i<es.size:=by simpa using hi
   have hei':es[i]?=some e:=by rw[<-hei];simp[hi']
   have hbi:e.born=i:=hK.idx i e hei';have hik:i<ks.length:=by rw[<-hK.size];exact hi'
   have hpk:ks[i]?=some (jF ks i):=by simp[jF,O4,NY hik]
   have hkey:e.key=qe (jF ks i):=hK.key i e _ hei' hpk
   have hm2:w2.heap[bm]?=some (.map es clock):=by
    rw[hs.grown.block bm ?_ ?_];exact hbw
    ·rcases O5 bm wr.heap.size with h|h
     ·exact h
     ·rw[OM h]at hbw;cases hbw
    ·intro e;cases e;omega
   have hen:=run_entry_at (P:=Tryz.prog) w2 W.heap.size bm clock seen es clock e hs.it hm2 hes hK.nodup
   have hlen:(seen.toList.map (jF ks)).length<ks.length:=by
    have:=lenU ks.length (i::seen.toList) (Q8.2 ⟨by rw[<-hbi];exact hns,hnd⟩) (fun j hj=>by
     rcases O7.1 hj with rfl|hj
     ·exact hik
     ·exact hlt j hj)
    rw[P3];rw[O8]at this;exact this
   have hJ2:J (seen.toList.map (jF ks)) w2:=hJ _ wr w2 (some W.heap.size) hJs hs.grown (fun r e=>by cases e;exact⟨Od _,_,hit,rfl⟩);have hJ3:J (seen.toList.map (jF ks)) (w2.alloc (.cells #[.string ⟨(jF ks i).pkg.toArray⟩,.string ⟨(jF ks i).name.toArray⟩] 97)):=hJ _ w2 _ none hJ2 (Rr w2 _ none) (fun r e=>by cases e);obtain⟨fn,tmps,assign,body,hy,hR⟩:=hY _ (jF ks i) _ hJ3 hlen;have hi2:=hs.it;have hmem:=hs.mem;clear hs hJ2 hJ3;rw[hkey]at hen⊢;unfold qe at hen hy⊢
   gi_wp2
   refine hR.mono ?_;rintro e' W3 ⟨rfl,hJ4,hk3⟩
   gi_wp2
   have q1:W3.heap[W.heap.size]?=some (.mapIter (some bm) clock (seen.push e.born) clock):=hk3.same _ _ ((heap_alloc_old _ _ (OB.1 hi2).1).trans hi2) rfl;have q2:W3.heap[bm]?=some (.map es clock):=hk3.same _ _ ((heap_alloc_old _ _ (OB.1 hm2).1).trans hm2) rfl
   go_roundw
   case rel=>
    refine⟨_,clock,q1,Od _,q2,?_,?_,?_⟩
    ·rw[RG];exact RB.2 ⟨hnd,by simp,fun a ha b hb e=>by simp at hb;subst hb;exact hns (e ▸ ha)⟩
    ·intro j hj;rw[RG,Ow,OH]at hj;rcases hj with hj|rfl
     ·exact hlt j hj
     ·omega
    ·rw[RG,Q1,QF,hbi];exact hJ4
   case measure=>
    unfold Ms;rw[q1,q2,hit,hbw];exact wc hmem
theorem Tryz.ukeys(F:Fence)(n:Nat)(h59:F.fn 78)(hro:F.round=none)(hn:1<=n)(Bm off bm:Nat)(es:Array MapEntry)(clock:Nat)(ks:List Nam)(hK:KeysU es clock ks)(w:World)(hm:w.cell? ⟨Bm,off,none⟩=some (.map (some bm)))(hb:w.heap[bm]?=some (.map es clock)) :
  SeqGives F n Tryz.prog 78 #[.pointer (some ⟨Bm,off,none⟩)] qe (fun ss=>ss.Perm ks) ks.length w:=fun l J W hW hJ hY h0=>by
 have hbm:bm<w.heap.size:=by
  rcases O5 bm w.heap.size with h|h
  ·exact h
  ·rw[OM h]at hb;cases hb
 exact Tryz.ukeys1 F n h59 hro hn l Bm off bm es clock ks hK J hY W hJ ((hW.cell (p:=⟨Bm,off,none⟩) (aC hm)).trans hm) ((hW.block bm hbm).trans hb) h0
end Go.Proofs
end
section
namespace Go.Proofs
open Go.RowKit Go.Shelf Go.AL Go.Maps
variable [Tabs]
attribute [local go_sem] Oper.semAt_some
set_option maxHeartbeats 4000000
def kY(x:Nam):List Value:=[.string ⟨x.pkg.toArray⟩,.string ⟨x.name.toArray⟩]
def jG(ss:List Nam):List Value:=ss.flatMap kY
theorem HQ(ss:List Nam)(x:Nam):jG (ss++[x])=jG ss++kY x:=by simp[jG]
theorem yR(w:World)(x y:Value)(t:TypeId):∀j u,[x,y][j]?=some u->(w.alloc (.cells #[x,y] t)).cell? ((⟨w.heap.size,0,none⟩:Addr).add j)=some u:=by
 intro j u hj;have hn:(w.alloc (.cells #[x,y] t)).heap[w.heap.size]?=some (.cells #[x,y] t (0,0)):=World.alloc_heap_new w _
 match j,hj with
 |0,hj=>cases hj;show(w.alloc _).cell? ⟨w.heap.size,0,none⟩=_;rw[al hn];rfl
 |1,hj=>cases hj;show(w.alloc _).cell? ⟨w.heap.size,1,none⟩=_;rw[al hn];rfl
 |j+2,hj=>simp at hj
theorem Tryz.infoU:(Tryz.prog.info? 97).map (fun i=>(i.zero,i.size,i.bytes))=some (some (.agg #[.string ⟨#[]⟩,.string ⟨#[]⟩]),2,32):=by kernel_rfl
def qg:Code:=(Code.region 2 #[{dst:=some 5,op:=Op.alloc 97,type:=0,pos:= "iter.go:51",after:=#[],guard:=none},{dst:=none,op:=Op.store 97 (Operand.tmp 5) (Operand.tmp 7),type:=0,pos:= "iter.go:51",after:=#[{on:=0,ground:=Ground.data},{on:=0,ground:=Ground.phase}],guard:=none}] false)
def yS:Code:=(Code.block 1 (Code.region 3 #[{dst:=some 8,op:=Op.load 54 (Operand.tmp 2),type:=54,pos:= "iter.go:52",after:=#[],guard:=none},{dst:=some 9,op:=Op.load 97 (Operand.tmp 5),type:=97,pos:= "iter.go:52",after:=#[],guard:=none},{dst:=some 10,op:=Op.buildSlice 54 1 #[(0,Operand.tmp 9)],type:=54,pos:= "iter.go:52",after:=#[{on:=1,ground:=Ground.data}],guard:=none},{dst:=some 11,op:=Op.call {callee:=Callee.builtin Builtin.append,args:=#[Operand.tmp 8,Operand.tmp 10],argTypes:=#[54,54]},type:=54,pos:= "iter.go:52",after:=#[{on:=0,ground:=Ground.data},{on:=2,ground:=Ground.data}],guard:=none},{dst:=none,op:=Op.store 54 (Operand.tmp 2) (Operand.tmp 11),type:=0,pos:= "iter.go:52",after:=#[{on:=3,ground:=Ground.data},{on:=3,ground:=Ground.chain},{on:=0,ground:=Ground.phase},{on:=1,ground:=Ground.phase},{on:=2,ground:=Ground.phase},{on:=3,ground:=Ground.phase}],guard:=none}] false))
def iL(fn:FuncId)(sv:Value)(Bs D:Nat)(st:LoopState)(pend:Option Code):Loop:=
 {state:=st,pending:=pend,fn,tmps:=#[.slice none 0 0,sv,.pointer (some ⟨Bs,0,none⟩),undef,.slice none 0 0,undef,sv,undef,undef,undef,undef,undef,undef],params:=#[7],assign:=qg,body:=yS,defers:=D}
structure UApAt(w0:World)(fn:FuncId)(sv:Value)(Bs l D:Nat)(ss:List Nam)(W:World):Prop where
 box:∃v,W.heap[Bs]?=some (.cells #[v] 54 (0,0))/\W.ownsRow w0.heap.size 97 2 v ss.length (jG ss)/\(v=.slice none 0 0↔ss=[])
 L:W.heap[l]?=some (.loop (iL fn sv Bs D .ready none))
 K:W.heap[D]?=some (.deferred (some []))
 below:Below w0.heap.size w0 W
theorem Eu(w0:World)(fn:FuncId)(sv:Value)(Bs l D B:Nat)(hB:w0.heap.size<=B):AbidesFrom B (UApAt w0 fn sv Bs l D):=fun s W W' row h hg hrow=>by
 have hrow':∀r,row=some r->∃o:Obj,W.heap[r]?=some o/\o.isWalk=true:=fun r e=>(hrow r e).2;obtain⟨v,hv,hr,hn⟩:=h.box
 exact⟨⟨v,(grownBy_keeps hg hrow' hv rfl).trans hv,ownsRow_abides_a hr hg hrow',hn⟩,(grownBy_keeps hg hrow' h.L rfl).trans h.L,(grownBy_keeps hg hrow' h.K rfl).trans h.K,
  h.below.grown hg h.below.size (fun k e=>OT hB (hrow k e).1)⟩
theorem Tryz.uapYield(F:Fence)(m:Nat)(w0:World)(fn:FuncId)(hfn:F.fn fn)(sv:Value)(Bs l D:Nat)(hBl:Bs≠l)(hDl:D≠l)(hDB:D≠Bs)(h0B:w0.heap.size<=Bs)(h0l:w0.heap.size<=l)
 (N:Nat)(hN:N<=maxLen)(hNb:N *32<=140737488355328)(ss:List Nam)(x:Nam)(W:World)(h:UApAt w0 fn sv Bs l D ss W)(hlen:ss.length<N) :
  YieldAt F m Tryz.prog l #[qe x] W fun e W'=>e=.returned (.bool true)/\UApAt w0 fn sv Bs l D (ss++[x]) W'/\KeepsWalks W W':=by
 have hne:(54:Nat)≠97:=by decide
 obtain⟨i0,hi,hz0,hz1,hz2⟩:=info_parts Tryz.infoU;refine⟨fn,#[.slice none 0 0,sv,.pointer (some ⟨Bs,0,none⟩),undef,.slice none 0 0,undef,sv,qe x,undef,undef,undef,undef,undef],qg,yS,by simpa[iL]using run_yield (P:=Tryz.prog) (args:=#[qe x]) h.L rfl,roundIn_of_wpIn hfn ?_⟩;obtain⟨Wa,hWa⟩:∃Wa,W.alloc (.cells #[.string ⟨x.pkg.toArray⟩,.string ⟨x.name.toArray⟩] 97)=Wa:=⟨_,rfl⟩;have hga:W.grownBy Wa none:=by rw[<-hWa];exact Rr _ _ none
 have hka:KeepsWalks W Wa:=by rw[<-hWa];exact KeepsWalks.alloc _ _
 have hL:Wa.heap[l]?=some (.loop (iL fn sv Bs D .ready none)):=(hga.block l (OB.1 h.L).1 (by simp)).trans h.L;have hK:Wa.heap[D]?=some (.deferred (some [])):=(hga.block D (OB.1 h.K).1 (by simp)).trans h.K;have h5:Wa.heap[W.heap.size]?=some (.cells #[.string ⟨x.pkg.toArray⟩,.string ⟨x.name.toArray⟩] 97 (0,0)):=by rw[<-hWa];exact World.alloc_heap_new _ _
 have hbw:Below w0.heap.size w0 Wa:=h.below.grown hga h.below.size (fun k e=>by cases e);obtain⟨v,hv0,hrow0,_⟩:=h.box;have hv:Wa.heap[Bs]?=some (.cells #[v] 54 (0,0)):=(hga.block Bs (OB.1 hv0).1 (by simp)).trans hv0;have hrow:Wa.ownsRow w0.heap.size 97 2 v ss.length (jG ss):=hrow0.kept hga (Q2 _);have hlW:l<W.heap.size:=(OB.1 h.L).1;have hl:l<Wa.heap.size:=(OB.1 hL).1;have hbr:=run_beginRound (P:=Tryz.prog) hL rfl;obtain⟨W2,hW2⟩:∃W2,Wa.putObj l (.loop {iL fn sv Bs D .ready none with state:=.busy})=W2:=⟨_,rfl⟩;rw[hW2]at hbr;have hg2:Wa.grownBy W2 (some l):=by rw[<-hW2];exact grownBy_putObj_a _ _ _
 have hk2:KeepsWalks W W2:=hka.trans (by rw[<-hW2];exact KeepsWalks.putObj _ hL rfl);have hv2:W2.heap[Bs]?=some (.cells #[v] 54 (0,0)):=by rw[<-hW2];exact(World.putObj_heap_other hBl).trans hv
 have hK2:W2.heap[D]?=some (.deferred (some [])):=by rw[<-hW2];exact(World.putObj_heap_other hDl).trans hK
 have hL2:W2.heap[l]?=some (.loop {iL fn sv Bs D .ready none with state:=.busy}):=by rw[<-hW2];exact World.putObj_heap_same hl
 have hrow2:W2.ownsRow w0.heap.size 97 2 v ss.length (jG ss):=hrow.kept hg2 (ownsRow_ne_a hrow hL (fun cur e=>by first|cases e|exact hne (Q3 e).2.1));have hb2:Below w0.heap.size w0 W2:=hbw.grown hg2 hbw.size (fun k e=>by cases e;exact h0l);have h52:W2.heap[W.heap.size]?=some (.cells #[.string ⟨x.pkg.toArray⟩,.string ⟨x.name.toArray⟩] 97 (0,0)):=by rw[<-hW2];exact(World.putObj_heap_other (by omega)).trans h5
 have hc5:W2.cell? ⟨W.heap.size,0,none⟩=some (.string ⟨x.pkg.toArray⟩):=by simp[World.cell?,h52]
 have hc6:W2.cell? ⟨W.heap.size,1,none⟩=some (.string ⟨x.name.toArray⟩):=by simp[World.cell?,h52]
 obtain⟨hc2,hf2⟩:=cell_of_box_a hv2;have hBlt:Bs<W2.heap.size:=(OB.1 hv2).1;have hl2:l<W2.heap.size:=(OB.1 hL2).1;have hDlt:D<W2.heap.size:=(OB.1 hK2).1
 have ne_of:∀{j:Nat} {o:Obj},W2.heap[j]?=some o->(∀cur,o≠.cells cur 97 (0,0))->some j≠v.ownBlock:=fun hj hno=>by
  rcases ownsRow_ne_a hrow2 hj hno with e|e
  ·rw[e];simp
  ·exact fun e'=>e e'.symm
 clear hW2;unfold qg qe
 gi_wp2_with gi_round_op_a
 unfold yS
 gi_wp2_with (first
  |(gi_at_builtin;refine wpListIn_append_own _ rfl _ _ 54 rfl w0.heap.size 97 i0 (.agg #[.string ⟨#[]⟩,.string ⟨#[]⟩]) 2 32 Tryz.underlying54 hi hz0 hz1 hz2 rfl (by decide) _ _ _ rfl (hrow2.alloc _) ⟨W2.heap.size,0,none⟩ 1 1 (kY x) rfl rfl (yR _ _ _ _) (by simp[Value.oneCell',kY]) (by omega) (by omega) (by have:=hb2.size;simp;omega) ?_;intro v' w3 hown' hg3 hnil3;have hv3:w3.heap[Bs]?=some (.cells #[v] 54 (0,0)):=(hg3.block Bs (by simp;omega) (ne_of hv2 (fun cur e=>by first|cases e|exact hne (Q3 e).2.1))).trans ((Below.heap_alloc _ _ Bs hBlt).trans hv2);obtain⟨hc3,hf3⟩:=cell_of_box_a hv3;obtain⟨g',cap',cur',rfl,hbase',hgb',hr1,hr2,hr3,hr4⟩:∃g' cap' cur',v'=.slice (some ⟨g',0,none⟩) (ss.length+1) cap'/\w0.heap.size<=g'/\w3.heap[g']?=some (.cells cur' 97 (0,0))/\ss.length+1<=cap'/\cap'<=maxLen/\cur'.size=cap' *2/\cur'.toList.take ((ss.length+1) *2)=jG ss++kY x:=hown'.2.elim (fun q=>absurd q.2 (by omega)) id;go_frame)
  |gi_round_op_a)
 have hg3':(W2.alloc (.cells #[.string ⟨x.pkg.toArray⟩,.string ⟨x.name.toArray⟩] 97)).grownBy w3 v.ownBlock:=hg3;have hL3:w3.heap[l]?=some (.loop {iL fn sv Bs D .ready none with state:=.busy}):=(hg3'.block l (by simp;omega) (ne_of hL2 (fun cur e=>by first|cases e|exact hne (Q3 e).2.1))).trans ((Below.heap_alloc _ _ l hl2).trans hL2);have hK3:w3.heap[D]?=some (.deferred (some [])):=(hg3'.block D (by simp;omega) (ne_of hK2 (fun cur e=>by first|cases e|exact hne (Q3 e).2.1))).trans ((Below.heap_alloc _ _ D hDlt).trans hK2);obtain⟨w4,hw4⟩:∃w4,w3.setCell ⟨Bs,0,none⟩ (.slice (some ⟨g',0,none⟩) (ss.length+1) cap')=w4:=⟨_,rfl⟩;rw[hw4];have hg4:w3.grownBy w4 (some Bs):=by rw[<-hw4];exact grownBy_setCell0_a _ _ _
 have hv4:w4.heap[Bs]?=some (.cells #[.slice (some ⟨g',0,none⟩) (ss.length+1) cap'] 54 (0,0)):=by rw[<-hw4];exact heap_setCell_box_a _ hv3
 have hL4:w4.heap[l]?=some (.loop {iL fn sv Bs D .ready none with state:=.busy}):=(hg4.block l (OB.1 hL3).1 (fun e=>hBl (by cases e;rfl))).trans hL3;have hK4:w4.heap[D]?=some (.deferred (some [])):=(hg4.block D (OB.1 hK3).1 (fun e=>hDB (by cases e;rfl))).trans hK3;have hrow4:=hown'.kept hg4 (ownsRow_ne_a hown' hv3 (fun cur e=>by first|cases e|exact hne (Q3 e).2.1));have hl4:l<w4.heap.size:=(OB.1 hL4).1;have hb3:Below w0.heap.size w0 w3:=(hb2.alloc hb2.size _).grown hg3' (by have:=hb2.size;simp;omega) (fun k e=>(hrow2.lt k e).1);have hb4:Below w0.heap.size w0 w4:=hb3.grown hg4 hb3.size (fun k e=>by cases e;exact h0B);have hk4:KeepsWalks W w4:=((hk2.trans (KeepsWalks.alloc _ _)).trans (KeepsWalks.of_grownBy hg3' (ownsRow_not_walk_a (hrow2.alloc _)))).trans (by rw[<-hw4];exact KeepsWalks.setCell _ _ _);clear hw4;refine⟨_,_,run_endRound none hL4,rfl,⟨⟨_,(World.putObj_heap_other hBl).trans hv4,?_,by simp⟩,World.putObj_heap_same hl4,(World.putObj_heap_other hDl).trans hK4,hb4.grown (grownBy_putObj_a _ _ _) hb4.size (fun k e=>by cases e;exact h0l)⟩,hk4.trans (KeepsWalks.putObj _ hL4 rfl)⟩;have:=hrow4.kept (grownBy_putObj_a w4 l (.loop {{iL fn sv Bs D .ready none with state:=.busy}with state:=if(none:Option Code).isNone then .ready else .done,pending:=none})) (ownsRow_ne_a hrow4 hL4 (fun cur e=>by first|cases e|exact hne (Q3 e).2.1));simpa[HQ]using this
theorem Tryz.uappendSeq(F:Fence)(n:Nat)(h11:F.fn 133)(hro:F.round=none)(hn:2<=n)(g:Nat)(lb:Array Value)(hFg:F.fn g)(eg:∀args w,(callFunc g args).run Tryz.prog w=.ok (.enter g args) w)
 (S:List Nam->Prop)(N:Nat)(hN:N<=maxLen)(hNb:N *32<=140737488355328)(w:World)(hseq:SeqGives F (n-1) Tryz.prog g lb qe S N w) :
  CallsIn F n Tryz.prog 133 #[.slice none 0 0,.func (.func g) #[] lb] w fun e w'=>∃(v:Value)(ss:List Nam),e=.returned v/\S ss/\w'.ownsRow w.heap.size 97 2 v ss.length (jG ss)/\(v=.slice none 0 0↔ss=[])/\Below w.heap.size w w':=by
 have h1:1<=n:=by omega
 have hne:(54:Nat)≠97:=by decide
 refine callsIn_of_wp_marks Tryz.func133 rfl h11 ?_ hro;simp only[Tryz.ntmps133,PB,O8,ON,Nat.reduceAdd,Nat.reduceSub,Pu,Pv,PH,Px,Pn,OQ]
 gi_wp2
 refine wpIn_rangeFunc ?_;intro fn hfn;rw[hro];obtain⟨W0,hW0⟩:∃W0,w.alloc (.cells #[.slice none 0 0] 54)=W0:=⟨_,rfl⟩;have hs0:W0.heap.size=w.heap.size+1:=by rw[<-hW0];simp
 have hv0:W0.heap[w.heap.size]?=some (.cells #[.slice none 0 0] 54 (0,0)):=by rw[<-hW0];exact World.alloc_heap_new w _
 have hb0:Below w.heap.size w W0:=by rw[<-hW0];exact(Below.refl _ w).alloc (Od _) _
 rw[hW0];obtain⟨W1,hW1⟩:∃W1,(W0.alloc (.deferred (some []))).alloc (.loop (iL fn (.func (.func g) #[] lb) w.heap.size W0.heap.size .ready none))=W1:=⟨_,rfl⟩;have hold:∀k,k<W0.heap.size->W1.heap[k]?=W0.heap[k]?:=fun k hk=>by rw[<-hW1];exact(Below.heap_alloc _ _ k (by simp;omega)).trans (Below.heap_alloc _ _ k hk)
 have hb1:Below w.heap.size w W1:=by rw[<-hW1];exact(hb0.alloc hb0.size _).alloc (by have:=hb0.size;simp;omega) _
 have hs1:W1.heap.size=W0.heap.size+2:=by rw[<-hW1];simp
 have hM:UApAt w fn (.func (.func g) #[] lb) w.heap.size (W0.heap.size+1) W0.heap.size [] W1:=
  ⟨⟨_,(hold w.heap.size (by omega)).trans hv0,⟨rfl,.inl ⟨rfl,rfl⟩⟩,by simp⟩,
   by rw[<-hW1];have:=World.alloc_heap_new (W0.alloc (.deferred (some []))) (.loop (iL fn (.func (.func g) #[] lb) w.heap.size W0.heap.size .ready none));rwa [World.size_alloc]at this,
   by rw[<-hW1];exact(Below.heap_alloc _ _ _ (by simp)).trans (World.alloc_heap_new W0 _),hb1⟩
 refine⟨W0.heap.size+1,[{target:=.collected W0.heap.size,args:=#[]}],W1,{target:=.fn (.func g) lb,args:=#[.func (.yield (W0.heap.size+1)) #[] #[]]},W1,g,
  #[.func (.yield (W0.heap.size+1)) #[] #[]]++lb,W1,?_,?_,?_,?_,fun _=>h1,?_⟩
 ·rw[<-hW1];exact run_enterLoop_outer _ _ _ _ _
 ·simp[resolve,go_sem]
 ·intro f' hf';simp[Target.leads]at hf';subst hf';exact hFg
 ·simp[invoke,go_sem,eg]
 ·refine(hseq (W0.heap.size+1) (UApAt w fn (.func (.func g) #[] lb) w.heap.size (W0.heap.size+1) W0.heap.size) W1 hb1 (Eu _ _ _ _ _ _ _ hb1.size)
   (fun pre x W hJ hl=>Tryz.uapYield F (n-1-1) w fn hfn _ w.heap.size (W0.heap.size+1) W0.heap.size (by omega) (by omega) (by omega) (Od _) (by omega) N hN hNb pre x W hJ hl) hM).mono ?_
  rintro e W2 ⟨⟨v0,rfl⟩,ss,hS,h2⟩;obtain⟨v,hv,hrow,hnil⟩:=h2.box;have hend:=run_endLoop (P:=Tryz.prog) h2.L (by simp[iL]);obtain⟨W3,hW3⟩:∃W3,W2.putObj (W0.heap.size+1) (.loop {iL fn (.func (.func g) #[] lb) w.heap.size W0.heap.size .ready none with state:=.exhausted})=W3:=⟨_,rfl⟩;rw[hW3]at hend;have hg3:W2.grownBy W3 (some (W0.heap.size+1)):=by rw[<-hW3];exact grownBy_putObj_a _ _ _
  have hv3:W3.heap[w.heap.size]?=some (.cells #[v] 54 (0,0)):=by rw[<-hW3];exact(World.putObj_heap_other (by omega)).trans hv
  have hK3:W3.heap[W0.heap.size]?=some (.deferred (some [])):=by rw[<-hW3];exact(World.putObj_heap_other (by omega)).trans h2.K
  have hrow3:=hrow.kept hg3 (ownsRow_ne_a hrow h2.L (fun cur e=>by first|cases e|exact hne (Q3 e).2.1));have hb3:Below w.heap.size w W3:=h2.below.grown hg3 h2.below.size (fun k e=>by cases e;omega);obtain⟨hc3,hf3⟩:=cell_of_box_a hv3;clear hW3;refine⟨none,W3,hend,?_⟩
  gi_wp2
  rw[<-hs0];refine⟨by simp,.inl ⟨_,_,rfl,run_takeDeferred hK3,?_⟩⟩;exact⟨_,results_tmp rfl _ _ _,v,ss,rfl,hS,hrow3.kept (grownBy_putObj_a _ _ _) (ownsRow_ne_a hrow3 hK3 (fun cur e=>by first|cases e|exact hne (Q3 e).2.1)),hnil,hb3.grown (grownBy_putObj_a _ _ _) hb3.size (fun k e=>by cases e;omega)⟩
theorem Tryz.ucollect(F:Fence)(n:Nat)(h8:F.fn 76)(h11:F.fn 133)(hro:F.round=none)(hn:3<=n)(g:Nat)(lb:Array Value)(hFg:F.fn g)(eg:∀args w,(callFunc g args).run Tryz.prog w=.ok (.enter g args) w)
 (S:List Nam->Prop)(N:Nat)(hN:N<=maxLen)(hNb:N *32<=140737488355328)(w:World)(hseq:SeqGives F (n-1-1) Tryz.prog g lb qe S N w) :
  CallsIn F n Tryz.prog 76 #[.func (.func g) #[] lb] w fun e w'=>∃(v:Value)(ss:List Nam),e=.returned v/\S ss/\w'.ownsRow w.heap.size 97 2 v ss.length (jG ss)/\(v=.slice none 0 0↔ss=[])/\Below w.heap.size w w':=by
 have h1:1<=n:=by omega
 have e98:∀args w,(callFunc 133 args).run Tryz.prog w=.ok (.enter 133 args) w:=enters_of Tryz.func133 (by kernel_rfl) rfl;refine callsIn_of_wp Tryz.func76 rfl h8 ?_ hro;simp only[Tryz.ntmps76,PB,O8,ON,Nat.reduceAdd,Nat.reduceSub,Pu,Pv,PH,Px,Pn,OQ]
 gi_wp2_with (gi_at_fn 133;refine(Tryz.uappendSeq F (n-1) h11 hro (by omega) g lb hFg eg S N hN hNb _ hseq).mono ?_;rintro e w' ⟨v,ss,rfl,hS,hrow,hnil,hb⟩)
 go_ret
 exact⟨v,ss,rfl,hS,hrow,hnil,hb⟩
end Go.Proofs
end
section
namespace Go.Proofs
open Go.RowKit Go.Shelf Go.AL Go.Maps Go.Sort Go.Pd Go.Lib
variable [Tabs]
attribute [local go_sem] Oper.semAt_some
set_option maxHeartbeats 4000000
theorem wX:∀(ss:List Nam)(t:Nat),t<ss.length *2->(jG ss)[t]?=some ((nt (ss.toArray[t/2]!))[t%2]!)
 |[],t,h=>by simp at h
 |x::r,t,h=>by
  have e:jG (x::r)=kY x++jG r:=by simp[jG]
  rw[e]
  match t,h with
  |0,_=>rfl
  |1,_=>rfl
  |t+2,h=>
   have h':t<r.length *2:=by simp at h;omega
   have ih:=wX r t h';rw[Oe (by simp[kY])];rw[show t+2-(kY x).length=t by simp[kY],ih];have d:(t+2)/2=t/2+1:=by omega
   have m:(t+2)%2=t%2:=by omega
   rw[d,m];have hl:t/2<r.length:=by omega
   simp[hl]
theorem ry{w:World}{g n:Nat}{os:Array Obj}(d:Array Nam):w.grownBy (sortWorldK nt 2 w g 0 n d os) (some g):=by unfold sortWorldK putRowK;refine⟨rfl,rfl,rfl,by simp,fun k hk hne=>?_⟩;rw[heap_grow_old _ _ (by simpa using hk)];have:g≠k:=fun e=>hne (by rw[e]);simp[putRow,mapBlock,Sort.ahead,Pl,this]
def RowU(w':World)(base:Nat)(v:Value)(l:List Nam):Prop:=
 (v=.slice none 0 0/\l=[])∨∃g cap,v=.slice (some ⟨g,0,none⟩) l.length cap/\base<=g/\l.length<=cap/\cap<=maxLen/\HoldsK nt 2 w' g 0 l.toArray
theorem HR{ks:List Nam}(hnd:ks.Nodup){d:Array Nam}(hp:d.toList.Perm ks)(hs:SortedIn (ltOf cfU) 0 d.size d):d.toList=gA ks:=by
 have hn:d.toList.Nodup:=hp.nodup_iff.2 hnd;refine yj ?_ (wA hnd) fun v=>by rw[hp.mem_iff,gA,Qh]
 unfold Av;rw[Pb];intro i j hi hj hij;have hi':i<d.size:=by simpa using hi
 have hj':j<d.size:=by simpa using hj
 have h:=hs i j (Of _) hij hj';rw[pd,PX d j hj',PX d i hi']at h;simp only[Rj];rcases mK d[i] d[j]with t|t|t
 ·exact t
 ·rw[PA,Pb]at hn;exact absurd (by simpa using t) (hn i j hi hj hij)
 ·rw[t]at h;cases h
theorem Tryz.usorted(w:World)(g:Nat)(lb:Array Value)(eg:∀args w,(callFunc g args).run Tryz.prog w=.ok (.enter g args) w)(ks:List Nam)(hN:ks.length *32<=140737488355328)(hnd:ks.Nodup)
 (hseq:SeqGives Fence.wide 2 Tryz.prog g lb qe (fun ss=>ss.Perm ks) ks.length w) :
  Calls Tryz.prog 38 #[.func (.func g) #[] lb,.func (.func 40) #[] #[]] w fun en w'=>∃v,en=.returned v/\RowU w' w.heap.size v (gA ks)/\RowKit.Below w.heap.size w w':=by
 have e57:∀args w,(callFunc 76 args).run Tryz.prog w=.ok (.enter 76 args) w:=enters_of Tryz.func76 (by kernel_rfl) rfl;have e58:∀args w,(callFunc 77 args).run Tryz.prog w=.ok (.enter 77 args) w:=enters_of Tryz.func77 (by kernel_rfl) rfl;have e29:∀args w,(callFunc 40 args).run Tryz.prog w=.ok (.enter 40 args) w:=enters_of Tryz.func40 (by kernel_rfl) rfl;have w57:Fence.wide.fn 76:=trivial;have w58:Fence.wide.fn 77:=trivial;refine(callsIn_wide (n:=5)).1 ?_;refine callsIn_of_wp (n:=5) Tryz.func38 rfl trivial ?_ rfl;simp only[Tryz.ntmps38,PB,O8,ON,Nat.reduceAdd,Nat.reduceSub,Pu,Pv,PH,Px,Pn,OQ]
 gi_wp2_with (gi_at_fn 76;refine(Tryz.ucollect Fence.wide 4 trivial trivial rfl (by omega) g lb trivial eg _ ks.length (by unfold maxLen;omega) hN w hseq).mono ?_;rintro e W ⟨v,ss,rfl,hS,hrow,hnil,hb⟩)
 rcases hrow.2 with⟨rfl,hz⟩|⟨gb,cap,cur,rfl,hbase,hgb,r1,r2,r3,r4⟩
 ·have hss:ss=[]:=Oc hz;subst hss;have hks:ks=[]:=by have:=hS.length_eq;simp at this;exact Oc this.symm
  subst hks
  gi_wp2_with (gi_at_fn 77;refine(callsIn_wide.2 (AnyF.slices_SortFunc_none Tryz.sortfU none 0 _ W)).mono ?_;rintro e w' ⟨rfl,rfl⟩)
  go_ret
  exact⟨_,rfl,.inl ⟨rfl,by simp[gA]⟩,hb⟩
 ·have hH:HoldsK nt 2 W gb 0 ss.toArray:=by
   intro j hj;have hj':j<ss.length *2:=by simpa using hj
   refine⟨?_,by simp[World.frozen?,hgb]⟩;have h1:cur.toList[j]?=(jG ss)[j]?:=by rw[<-r4,List.getElem?_take_of_lt (by omega)]
   rw[wX ss j hj']at h1;rw[P0,al hgb,<-Oh,h1,get_flatK _ _ _ _ (by simpa using hj')];rfl
  have hgl:gb<W.heap.size:=(OB.1 hgb).1;have hsz:ss.toArray.size<4611686018427387904:=by have:=hS.length_eq;simp;omega
  have cS:=AnyQ.slices_SortFunc Tryz.sortfU 2 Tryz.isAgg97 Tryz.sizeOf97 nt (fun _=>rfl) (by intro x v hv;simp[nt]at hv;rcases hv with rfl|rfl<;>rfl) cfU swoU 40 #[] gb 0 cap ss.toArray W e29 (Tryz.cmpLays _ _ _ _) hH hgl hsz;rw[show ss.toArray.size=ss.length by simp]at cS;clear hrow
  gi_wp2_with (gi_at_fn 77;refine(callsIn_wide.2 cS).mono ?_;rintro e w' ⟨rfl,d',n',os,hperm,hsort,rfl⟩)
  go_ret
  obtain⟨p1,_,p3⟩:=hperm;have hds:d'.size=ss.length:=by rw[p1];simp
  have x1:d'.extract 0 ss.length=d':=by rw[<-hds];simp
  have x2:ss.toArray.extract 0 ss.length=ss.toArray:=by simp
  rw[x1,x2]at p3;have hp:d'.toList.Perm ks:=(by simpa using p3:d'.toList.Perm ss).trans hS;rw[<-hds]at hsort;have hres:=HR hnd hp hsort;have hrl:(gA ks).length=ss.length:=by rw[<-hres];simp[hds]
  refine⟨.slice (some ⟨gb,0,none⟩) ss.length cap,rfl,.inr ⟨gb,cap,by rw[hrl],hbase,by omega,r2,?_⟩,hb.grown (ry _) hb.size (fun j hj=>by cases hj;exact hbase)⟩;rw[<-hres];simp only[PI];exact holdsK_sortWorldK nt 2 W gb 0 n' ss.toArray d' os hgl hH (by rw[hds];simp)
end Go.Proofs
end
noncomputable section
namespace Go.AL
open Go.Proofs Go.RowKit Go.Maps Go.Sort Go.Shelf Go.Pd
variable [Tabs]
set_option maxHeartbeats 1000000
theorem nu{τ:Ty}(m:List (Nam×den τ))(hN:m.length *32<=140737488355328) :
  ak Tryz.prog 38 [.fn 78 [.ptr 900 0],.fn 40 []] [(900,.box (.map 901)),(901,.map (.st .nm) τ m)] ⟨some (m.length *32<=140737488355328),none,.lst (.st .nm) (gA (m.map (·.1))) none,[(901,.map (.st .nm) τ m)]⟩:=by
 intro w pub e vs hp ht hv hs hd hi;obtain⟨v1,v2,rfl,h1,h2⟩:=VL.two_inv hv;obtain⟨us,rfl,hus⟩:=h1.fn_inv;obtain⟨us2,rfl,hus2⟩:=h2.fn_inv;obtain rfl:us2=[]:=Oc hus2.1.symm;obtain⟨u,rfl,hu⟩:=VL.one_inv hus;obtain⟨b,o,len,rfl,he⟩:=hu.ptr_inv;obtain⟨b',o',he',hbox⟩:=hs 900 _ rfl;rw[he]at he';cases he';obtain⟨_,_,_,v,hcell,hvm⟩:=hbox 0 (.map 901) rfl
 cases hvm with
 |map _ r her=>
  have her:e 901=some (.obj r):=her;obtain⟨r',her',_,es,clock,hr,hmok⟩:=hs 901 _ rfl;have her':e 901=some (.obj r'):=her';rw[her]at her';cases her';have hr:w.heap[r]?=some (.map es clock):=hr
  have ent:∀(i:Nat)(hi:i<m.length),∃en,es[i]?=some en/\en.key=qe m[i].1/\m[i].1.pkg.length<=bj/\m[i].1.name.length<=bj:=fun i hi=>by
   have hi':i<es.size:=by rw[hmok.size];exact hi
   have q:=FO (hmok.ent i es[i] m[i] (Oz hi') (NY hi)).1;exact⟨es[i],Oz hi',q.1,q.2⟩
  have hK:KeysU es clock (m.map (·.1)):=⟨by simp[hmok.size],fun i en k q1 q2=>by
   have hi:i<m.length:=by
    rcases O5 i m.length with q|q
    ·exact q
    ·rw[O2 (by simpa using q)]at q2;cases q2
   obtain⟨en',a1,a2,_⟩:=ent i hi;rw[q1]at a1;cases a1;rw[OD,NY hi]at q2;cases q2;exact a2,hmok.idx,hmok.top⟩
  have hsq:=Tryz.ukeys Fence.wide 2 trivial rfl (by omega) b (o+0) r es clock _ hK w hcell hr;have e59:∀args w,(callFunc 78 args).run Tryz.prog w=.ok (.enter 78 args) w:=enters_of Tryz.func78 (by kernel_rfl) rfl;refine(Tryz.usorted w 78 #[.pointer (some ⟨b,o+0,none⟩)] e59 (m.map (·.1)) (by simpa using hN) hmok.keys hsq).mono ?_;rintro en w' ⟨v,rfl,hrow,hb⟩;have hlen:∀k∈gA (m.map (·.1)),k.pkg.length<=bj/\k.name.length<=bj:=fun k hk=>by rw[gA,Qh]at hk;obtain⟨x,hx,rfl⟩:=OC.1 hk;obtain⟨i,hi,rfl⟩:=PZ hx;obtain⟨_,_,_,a3⟩:=ent i hi;exact a3
  generalize gA (m.map (·.1))=l at hrow hlen
  have aft:∀(Q:Nat->Nat->Prop),(∀b o,Q b o->w.heap.size<=b/\∃v,w'.cell? ⟨b,o,none⟩=some v)->
    After w pub e (aj (cr [(900,.box (.map 901)),(901,.map (.st .nm) τ m)] [(901,.map (.st .nm) τ m)])) w' (fun b o=>pub b o∨Q b o) (fun i=>if 901=i then some (.obj r)else e i):=fun Q hQ=>
   After.slot hp hs hd hi (k:=901) (obj:=.map (.st .nm) τ m) (c:=.obj r) (Q:=Q) hb.os hb.tape hb.output hb.size (fun b h _=>hb.block b h) (fun b o h _=>ai (hb.block b h) o)
    (fun b h _=>⟨aT (hb.block b h),fun o=>aK (hb.block b h) o⟩)
    (fun b o h=>by obtain⟨v,hv⟩:=hp b o h;exact ai (hb.block b (aC hv)) o)
    hQ (fun c0 h=>by rw[her]at h;cases h;exact CLe.refl _) (fun b o ho=>.inr ⟨_,her,ho⟩)
    (fun hx=>⟨r,by simp,fun o=>.inr ⟨901,_,her,rfl⟩,es,clock,(hb.block r (aI hr)).trans hr,hmok.ext hx⟩)
  rcases hrow with⟨rfl,rfl⟩|⟨g,cap,rfl,hbase,h1,h2,hH⟩
  ·exact⟨_,_,fun _ _ _ h=>(by cases h),.lstNil _ _ (fun _ h=>by cases h),aft (fun _ _=>False) (fun _ _ h=>h.elim)⟩
  ·have cel:∀(i:Nat)(hi:i<l.length)(c:Nat),c<2->w'.cell? ⟨g,i *2+c,none⟩=some ((nt l[i])[c]!):=fun i hi c hc=>by have:=(hH.cell (i:=i) (by simpa using hi) hc).1;rw[show 0+i *2+c=i *2+c by omega]at this;rw[this];simp[hi]
   refine⟨_,_,fun _ _ _ h=>(by cases h),?_,aft (fun b o=>b=g/\o<l.length *2) (fun b o ⟨q1,q2⟩=>?_)⟩
   ·refine .lst (.st .nm) l none g 0 cap (fun i j=>(nt (l.getD i default))[j]!) h1 (by unfold maxLen at h2;unfold bj;omega) (fun id h=>by cases h) (fun i x hx j c hc=>?_) (fun i x hx j c hc=>?_)
    ·obtain⟨hi',rfl⟩:=OA.1 hx;have hj:j<2:=(OA.1 hc).1;have ew:ab (.st .nm)=2:=rfl;rw[ew,P0];refine⟨.inr ⟨rfl,by omega⟩,?_⟩;show w'.cell? ⟨g,i *2+j,none⟩=_;rw[cel i hi' j hj,O4,NY hi'];rfl
    ·obtain⟨hi',rfl⟩:=OA.1 hx;have q:=hlen l[i] (QK hi');rw[O4,NY hi',OX]
     match j,hc with
     |0,hc=>cases hc;exact .str _ q.1
     |1,hc=>cases hc;exact .str _ q.2
     |j+2,hc=>cases hc
   ·subst q1;have hd2:o=(o/2) *2+o%2:=by omega
    exact⟨hbase,_,by rw[hd2];exact cel (o/2) (by omega) (o%2) (by omega)⟩
def uO:Pat:=fun args S=>
 match args,S with
 |[.fn g [.ptr 900 0],.fn h []],[(900,.box (.map 901)),(901,.map (.st .nm) τ m)]=>
  if g=78/\h=40 then some ⟨some (m.length *32<=140737488355328),none,.lst (.st .nm) (gA (m.map (·.1))) none,[(901,.map (.st .nm) τ m)]⟩else none
 |_,_=>none
theorem vJ(he:Enters Tryz.prog 38):ah Tryz.prog 38 uO:=by
 intro args S A h hob hkeys;unfold uO at h;split at h
 ·split at h
  ·rename_i e;obtain⟨rfl,rfl⟩:=e;cases h;exact⟨he,nu _ (hob _ rfl)⟩
  ·cases h
 ·cases h
def mf:Pat:=fun args S=>
 match args,S with
 |[.fn g [.ptr 900 0],.fn h []],[(900,.box (.map 901)),(901,.map (.st .nm) τ [x])]=>
  if Nat.beq g 78&&Nat.beq h 40 then some ⟨none,none,.lst (.st .nm) [x.1] none,[(901,.map (.st .nm) τ [x])]⟩else none
 |_,_=>none
theorem uP(he:Enters Tryz.prog 38):ah Tryz.prog 38 mf:=by
 intro args S A h hob hkeys;unfold mf at h;split at h
 ·rename_i τ x;split at h
  ·rename_i e;rw[NZ]at e;obtain⟨e1,e2⟩:=e;obtain rfl:=On e1;obtain rfl:=On e2;cases h;refine⟨he,?_⟩;have:=nu (τ:=τ) [x] (by simp);have e:gA ([x].map (·.1))=[x.1]:=by simp[gA]
   rw[e]at this;exact this
  ·cases h
 ·cases h
end Go.AL
end
noncomputable section
namespace Go.AL
open Go
variable [Tabs] {P:Program}
def uQ(g:Nat):Pat:=fun args S=>
 match args,S with
 |[.map 900],[(900,.map (.st .nm) (.int .i64) m)]=>some ⟨none,none,.fn g [.ptr 1 0],[(1,.box (.map 900)),(900,.map (.st .nm) (.int .i64) m)]⟩
 |_,_=>none
theorem C4{f g:Nat}(he:Enters P f)(h:∀m:List (Nam×Int),ak P f [.map 900] [(900,.map (.st .nm) (.int .i64) m)] ⟨none,none,.fn g [.ptr 1 0],[(1,.box (.map 900)),(900,.map (.st .nm) (.int .i64) m)]⟩):ah P f (uQ g):=by
 intro args S A hA _ _;unfold uQ at hA;split at hA
 ·simp only[Xs]at hA;subst hA;exact⟨he,h _⟩
 ·cases hA
def pe(g:Nat)(F:List Nam->Impt->Ans):Pat:=fun args S=>
 match args,S with
 |[a,.fn f [.ptr 900 0]],[(900,.box (.st .imp x))]=>(match Nat.beq f g,arg (.lst (.st .nm)) a with|true,some l=>some (F l x)|_,_=>none)
 |_,_=>none
theorem qY{f g:Nat}{F:List Nam->Impt->Ans}(he:Enters P f)(h:∀a x,Wf (.lst (.st .nm)) a->(∀q,(F a x).ob=some q->q)->ak P f [.lst (.st .nm) a none,.fn g [.ptr 900 0]] [(900,.box (.st .imp x))] (F a x)) :
  ah P f (pe g F):=by
 intro args S A hA ho _;unfold pe at hA;split at hA
 ·split at hA
  ·rename_i x hb hx;simp only[Xs]at hA;subst hA;have e:=On hb;subst e;exact⟨he,ak.args (.cons (Rd.arg hx) (.cons (Rd.refl _) .nil)) (ak.wf fun hw=>h _ _ hw.one ho)⟩
  ·cases hA
 ·cases hA
def Ew(F:Nam->Impt->Ans):Pat:=fun args S=>
 match args,S with
 |[a,.ptr 900 0],[(900,.box (.st .imp x))]=>(match arg (.st .nm) a with|some u=>some (F u x)|_=>none)
 |_,_=>none
theorem HS{f:Nat}{F:Nam->Impt->Ans}(he:Enters P f)(h:∀u x,(∀q,(F u x).ob=some q->q)->ak P f [.st .nm u,.ptr 900 0] [(900,.box (.st .imp x))] (F u x)) :
  ah P f (Ew F):=by
 intro args S A hA ho _;unfold Ew at hA;split at hA
 ·split at hA
  ·rename_i x hx;simp only[Xs]at hA;subst hA;exact⟨he,ak.args (.cons (Rd.arg hx) (.cons (Rd.refl _) .nil)) (h _ _ ho)⟩
  ·cases hA
 ·cases hA
end Go.AL
namespace Go.Pd
open Go.AL
def rz(x:Impt)(u:Nam):Bool:=!decide (u.pkg=x.name)
theorem HT(l:List Nam)(x:Impt):(!l.all (rz x))=dM l x:=by
 unfold dM rz
 induction l with
 |nil=>rfl
 |cons a r ih=>rw[P6,List.any_cons,<-ih];cases decide (a.pkg=x.name)<;>rfl
theorem uR(u:Nam)(v:Int):∀m:List (Nam×Int),(m.map (·.1)).Nodup->((bP m u v).map (·.1)).Nodup
 |[],_=>by simp[bP]
 |(a,c)::r,h=>by
  have h1:=Q8.1 h;unfold bP;split
  ·rename_i e;subst e;exact h
  ·rename_i e;refine Q8.2 ⟨fun q=>?_,uR u v r h1.2⟩;rcases(wy r u a v).1 q with q|q
   ·exact h1.1 q
   ·exact e q.symm
theorem uS:∀(us:List Nam)(m:List (Nam×Int)),(m.map (·.1)).Nodup->((aL m us).map (·.1)).Nodup
 |[],_,h=>h
 |u::r,m,h=>uS r (Dq m u) (uR _ _ _ h)
theorem Kz{m:Modu}(h:bq m=0):gA ((aL [] (cU m.decls)).map (·.1))=da m:=
 (Jh _ (uS _ _ List.nodup_nil)).trans (O3 h).symm
end Go.Pd
end
noncomputable section
namespace Go.Pd
open Go Go.AL
def lgD:List Dcl->Int->Option Int
 |[],n=>some n
 |d::r,n=>if 600<n+(fe d.term 300+sizeF d.shape 300)then none else lgD r (n+(fe d.term 300+sizeF d.shape 300))
def lgR(l:List Bnd):Bool:=l.all fun b=>decide (b.v.pre.length<=60)
def lgI(x:Impt):Bool:=decide (x.range.length<=30)&&(decide (x.pin.pre.length<=60)&&lgR x.range)
def lgH(m:Modu)(n:Int):Bool:=decide (n+(20+(m.imports.length:Int))<=600)&&(decide (m.imports.length<=20)&&(decide (m.exports.length<=80)&&decide (m.decls.length<=60)))
def lgA(o:Option Int)(m:Modu)(k:Int->Bool):Bool:=match o with|none=>false|some n=>m.imports.all lgI&&k n
def lgM:List Modu->Int->Bool
 |[],_=>true
 |m::r,n=>lgH m n&&lgA (lgD m.decls (n+(20+(m.imports.length:Int)))) m (lgM r)
theorem Nr{m:Modu}(h:lgM [m] 0=true):m.decls.length<=60/\m.imports.length<=20:=by rw[lgM,NZ]at h;have h:=h.1;unfold lgH at h;simp only[NZ,O1]at h;exact⟨h.2.2.2,h.2.1⟩
theorem pg{m:Modu}{n:Int}:lgH m n=true↔n+(20+(m.imports.length:Int))<=600/\m.imports.length<=20/\m.exports.length<=80/\m.decls.length<=60:=by unfold lgH;simp only[NZ,O1]
theorem Fv{x:Impt}:lgI x=true↔x.range.length<=30/\x.pin.pre.length<=60/\lgR x.range=true:=by unfold lgI;simp only[NZ,O1]
theorem KA(b:Bnd)(r:List Bnd):lgR (b::r)=(decide (b.v.pre.length<=60)&&lgR r):=P6
def szM:List Modu->Nat
 |[]=>0
 |m::r=>max (szDs m.decls) (szM r)
where szDs:List Dcl->Nat
 |[]=>0
 |d::r=>max (max (sz d.shape) (szT d.term)) (szDs r)
theorem Fw:∀(l:List Dcl)(d:Dcl),d∈l->sz d.shape<=szM.szDs l/\szT d.term<=szM.szDs l
 |x::r,d,h=>by
  rw[szM.szDs];rcases O7.1 h with rfl|h
  ·exact⟨OT (Qo _ _) (Qo _ _),OT (Qf _ _) (Qo _ _)⟩
  ·have:=Fw r d h;exact⟨OT this.1 (Qf _ _),OT this.2 (Qf _ _)⟩
theorem KB:∀(l:List Modu)(m:Modu),m∈l->∀d∈m.decls,sz d.shape<=szM l/\szT d.term<=szM l
 |x::r,m,h,d,hd=>by
  rw[szM];rcases O7.1 h with rfl|h
  ·have:=Fw _ d hd;exact⟨OT this.1 (Qo _ _),OT this.2 (Qo _ _)⟩
  ·have:=KB r m h d hd;exact⟨OT this.1 (Qf _ _),OT this.2 (Qf _ _)⟩
end Go.Pd
end
noncomputable section
namespace Go.Pd
open Go Go.AL
theorem uT{us:List Nam}:∀{l:List Impt} {x:Impt},x∈l->(x.name∈cC us l↔dM us x=false)
 |y::r,x,h=>by
  have hn:∀a b:Impt,a.name=b.name->dM us a=dM us b:=fun a b e=>by unfold dM;rw[e]
  have sub:∀(l:List Impt)(n:Str),n∈cC us l->∃z∈l,z.name=n/\dM us z=false:=by
   intro l
   induction l with
   |nil=>intro n h;cases h
   |cons z s ih=>
    intro n h;rw[cC]at h;split at h
    ·obtain⟨w,h1,h2⟩:=ih n h;exact⟨w,Og _ h1,h2⟩
    ·rename_i c;rcases O7.1 h with e|h
     ·exact⟨z,Ox ..,e.symm,by simpa using c⟩
     ·obtain⟨w,h1,h2⟩:=ih n h;exact⟨w,Og _ h1,h2⟩
  constructor
  ·intro q;obtain⟨z,_,e,hz⟩:=sub _ _ q;rw[hn x z e.symm,hz]
  ·intro q;rw[cC];rcases O7.1 h with e|h
   ·subst e;rw[O0 (by rw[q];decide)];exact Ox ..
   ·have:=(uT h).2 q;split
    ·exact this
    ·exact Og _ this
def mg(n:Str)(l:List Str):Bool:=l.any fun x=>decide (x=n)
theorem HU(n x:Str)(r:List Str):mg n (x::r)=(decide (x=n)||mg n r):=List.any_cons
theorem C5{n:Str}{l:List Str}:mg n l=true↔n∈l:=by unfold mg;simp only[List.any_eq_true,O1];exact⟨fun⟨x,h,e⟩=>e ▸ h,fun h=>⟨n,h,rfl⟩⟩
end Go.Pd
end
section
open Go Go.AL Go.Pd
namespace Go.AL.Seat
theorem HV(n:Nat)(m:List (Nam×Int))(s:Shape)(hs:Wf (.st .shape) s)(ho:sz s<=n+1/\m.length+(useS s).length<=9000000000000000000) :
  let A:=(0:Int);let B:=(↑(mix m {pkg:=s.pkg,name:=s.name:Nam}):Int);let C:=(cu m {pkg:=s.pkg,name:=s.name:Nam});let D:=(bP m {pkg:=s.pkg,name:=s.name:Nam} (Option.getD C A));let E:=s=s;let F:=s.parts=s.parts;let G:=(↑(List.length s.parts):Int);let H:=(1:Int);let I:=aL m (rr s);let J:=E/\True;let K:=dfl (Ty.st SN.shape);let L:=(9000000000000000000:Nat);let M:=(∃(x:Nat),x<=List.length s.parts/\A=(↑x:Int)/\E/\false=false/\F/\G=G/\m=aL I (useSL (List.take x s.parts))/\J)/\∀(x:Nat),let N:=(↑x:Int);let O:=List.getD s.parts (Int.toNat N) K;let P:=useSL (List.take x s.parts);x<=List.length s.parts->if decide (N<G)=true then(A<=N/\N<G)/\(sz O<=n/\List.length (aL I P)+List.length (useS O)<=L)/\inR IntKind.i64 (N+H)/\∃(y:Nat),y<=List.length s.parts/\List.length s.parts-y<List.length s.parts-x/\N+H=(↑y:Int)/\E/\false=false/\F/\G=G/\aL (aL I P) (useS O)=aL I (useSL (List.take y s.parts))/\J else True/\aL I P=aL m (useS s)/\True;if decide (s.kind=(9:Int))=true then if(!decide (s.pkg=[]))=true then List.length m<=(9223372036854775807:Nat)/\(A<=B/\Int.toNat B<List.length D)/\(∃(x:Nat),x<=List.length s.parts/\A=(↑x:Int)/\E/\true=true/\F/\G=G/\iG D (Int.toNat B) (IntKind.wrap IntKind.i64 (Option.getD C A+H))=aL I (useSL (List.take x s.parts))/\J)/\∀(x:Nat),let N:=(↑x:Int);let O:=List.getD s.parts (Int.toNat N) K;let P:=useSL (List.take x s.parts);x<=List.length s.parts->if decide (N<G)=true then(A<=N/\N<G)/\(sz O<=n/\List.length (aL I P)+List.length (useS O)<=L)/\inR IntKind.i64 (N+H)/\∃(y:Nat),y<=List.length s.parts/\List.length s.parts-y<List.length s.parts-x/\N+H=(↑y:Int)/\E/\true=true/\F/\G=G/\aL (aL I P) (useS O)=aL I (useSL (List.take y s.parts))/\J else True/\aL I P=aL m (useS s)/\True else M else M:=by
 conv=>zeta
 have ln:=hs.parts.len;obtain⟨o1,o2⟩:=ho;have hz:=jh s;have hu:useS s=rr s++useSL s.parts:=Lm s;rw[hu,Oj]at o2
 have tail:∀x:Nat,x<=s.parts.length->if decide ((x:Int)<(s.parts.length:Int))=true then((0:Int)<=(x:Int)/\(x:Int)<(s.parts.length:Int))/\(sz (s.parts.getD x (dfl (.st .shape)))<=n/\(aL (aL m (rr s)) (useSL (s.parts.take x))).length+(useS (s.parts.getD x (dfl (.st .shape)))).length<=9000000000000000000)/\inR .i64 ((x:Int)+1)/\∃y:Nat,y<=s.parts.length/\s.parts.length-y<s.parts.length-x/\(x:Int)+1=(y:Int)/\aL (aL (aL m (rr s)) (useSL (s.parts.take x))) (useS (s.parts.getD x (dfl (.st .shape))))=aL (aL m (rr s)) (useSL (s.parts.take y))else aL (aL m (rr s)) (useSL (s.parts.take x))=aL m (useS s):=by
  intro k h1;apply aa<;>intro h
  ·replace h:=Xo h;have hk:k<s.parts.length:=by omega
   have hm:=eZ (getD_mem s.parts k (dfl (.st .shape)) hk);have ht:=um s.parts k (dfl (.st .shape)) hk;have l1:=fD (useSL (s.parts.take k)) (aL m (rr s));have l2:=fD (rr s) m;have l3:=AR s.parts (k+1);rw[ht,Oj]at l3;exact⟨by omega,⟨by omega,by omega⟩,aA hk ln,k+1,by omega,by omega,by omega,by rw[ht,iD]⟩
  ·have e:k=s.parts.length:=by have:¬((k:Int)<(s.parts.length:Int)):=fun e=>h (Xd e);omega
   rw[e,OY,hu,iD]
 simp only[Oi,Pw,OV,OK];refine aa (fun h1=>aa (fun h2=>?_) (fun h2=>?_)) (fun h1=>?_)
 ·have h1:=Xo h1;have h2:s.pkg≠[]:=by simpa using h2
  have ho:rr s=[⟨s.pkg,s.name⟩]:=O3 ⟨h1,h2⟩;rw[ho]at tail o2⊢;refine⟨by omega,⟨by omega,DC _ _ _⟩,⟨0,Of _,rfl,?_⟩,tail⟩;rw[nW];rfl
 ·have h2:s.pkg=[]:=by simpa using h2
  have ho:rr s=[]:=O0 fun q=>q.2 h2;rw[ho]at tail⊢;exact⟨⟨0,Of _,rfl,rfl⟩,tail⟩
 ·have ho:rr s=[]:=O0 fun q=>h1 (Xd q.1);rw[ho]at tail⊢;exact⟨⟨0,Of _,rfl,rfl⟩,tail⟩
theorem KC(N n:Nat)(m:List (Nam×Int))(t:Trm)(ht:Wf (.st .term) t)(ho:szT t<=n+1/\allT (mxU N) t=true/\m.length+(useT t).length<=9000000000000000000) :
  let A:=(0:Int);let B:=(↑(mix m {pkg:=t.pkg,name:=t.name:Nam}):Int);let C:=(cu m {pkg:=t.pkg,name:=t.name:Nam});let D:=(bP m {pkg:=t.pkg,name:=t.name:Nam} (Option.getD C A));let E:=t=t;let F:=true=true;let G:=t.shapes=t.shapes;let H:=(↑(List.length t.shapes):Int);let I:=H=H;let J:=(1:Int);let K:=aL m (iF t);let L:=E/\True;let M:=dfl (Ty.st SN.shape);let O:=(9000000000000000000:Nat);let P:=false=false;let Q:=t.parts=t.parts;let R:=(↑(List.length t.parts):Int);let S:=aL K (useSL t.shapes);let T:=dfl (Ty.st SN.term);let U:=(∃(x:Nat),x<=List.length t.shapes/\A=(↑x:Int)/\E/\P/\G/\I/\m=aL K (useSL (List.take x t.shapes))/\L)/\∀(x:Nat),let V:=(↑x:Int);let W:=List.getD t.shapes (Int.toNat V) M;let X:=useSL (List.take x t.shapes);x<=List.length t.shapes->if decide (V<H)=true then(A<=V/\V<H)/\(sz W<=N/\List.length (aL K X)+List.length (useS W)<=O)/\inR IntKind.i64 (V+J)/\∃(y:Nat),y<=List.length t.shapes/\List.length t.shapes-y<List.length t.shapes-x/\V+J=(↑y:Int)/\E/\P/\G/\I/\aL (aL K X) (useS W)=aL K (useSL (List.take y t.shapes))/\L else(∃(x_1:Nat),x_1<=List.length t.parts/\A=(↑x_1:Int)/\V=V/\E/\P/\G/\I/\P/\Q/\R=R/\aL K X=aL S (useTL (List.take x_1 t.parts))/\L)/\∀(x_1:Nat),let Y:=(↑x_1:Int);let Z:=List.getD t.parts (Int.toNat Y) T;let a:=useTL (List.take x_1 t.parts);x_1<=List.length t.parts->if decide (Y<R)=true then(A<=Y/\Y<R)/\(szT Z<=n/\allT (mxU N) Z=true/\List.length (aL S a)+List.length (useT Z)<=O)/\inR IntKind.i64 (Y+J)/\∃(y:Nat),y<=List.length t.parts/\List.length t.parts-y<List.length t.parts-x_1/\Y+J=(↑y:Int)/\V=V/\E/\P/\G/\I/\P/\Q/\R=R/\aL (aL S a) (useT Z)=aL S (useTL (List.take y t.parts))/\L else True/\aL S a=aL m (useT t)/\True;if decide (t.kind=(5:Int))=true then if(!decide (t.pkg=[]))=true then List.length m<=(9223372036854775807:Nat)/\(A<=B/\Int.toNat B<List.length D)/\(∃(x:Nat),x<=List.length t.shapes/\A=(↑x:Int)/\E/\F/\G/\I/\iG D (Int.toNat B) (IntKind.wrap IntKind.i64 (Option.getD C A+J))=aL K (useSL (List.take x t.shapes))/\L)/\∀(x:Nat),let V:=(↑x:Int);let W:=List.getD t.shapes (Int.toNat V) M;let X:=useSL (List.take x t.shapes);x<=List.length t.shapes->if decide (V<H)=true then(A<=V/\V<H)/\(sz W<=N/\List.length (aL K X)+List.length (useS W)<=O)/\inR IntKind.i64 (V+J)/\∃(y:Nat),y<=List.length t.shapes/\List.length t.shapes-y<List.length t.shapes-x/\V+J=(↑y:Int)/\E/\F/\G/\I/\aL (aL K X) (useS W)=aL K (useSL (List.take y t.shapes))/\L else(∃(x_1:Nat),x_1<=List.length t.parts/\A=(↑x_1:Int)/\V=V/\E/\F/\G/\I/\P/\Q/\R=R/\aL K X=aL S (useTL (List.take x_1 t.parts))/\L)/\∀(x_1:Nat),let Y:=(↑x_1:Int);let Z:=List.getD t.parts (Int.toNat Y) T;let a:=useTL (List.take x_1 t.parts);x_1<=List.length t.parts->if decide (Y<R)=true then(A<=Y/\Y<R)/\(szT Z<=n/\allT (mxU N) Z=true/\List.length (aL S a)+List.length (useT Z)<=O)/\inR IntKind.i64 (Y+J)/\∃(y:Nat),y<=List.length t.parts/\List.length t.parts-y<List.length t.parts-x_1/\Y+J=(↑y:Int)/\V=V/\E/\F/\G/\I/\P/\Q/\R=R/\aL (aL S a) (useT Z)=aL S (useTL (List.take y t.parts))/\L else True/\aL S a=aL m (useT t)/\True else U else U:=by
 conv=>zeta
 have ls:=ht.term_shapes.len;have lp:=ht.term_parts.len;obtain⟨o1,o3,o2⟩:=ho;have hz:=ji t;have hu:useT t=iF t++(useSL t.shapes++useTL t.parts):=mJ t;rw[hu,Oj,Oj]at o2;rw[allT_eq,NZ,allTL_all,O9]at o3;have o4:=o3.1;rw[mxU,O9]at o4;have l2:=fD (iF t) m
 have tail2:∀x:Nat,x<=t.parts.length->if decide ((x:Int)<(t.parts.length:Int))=true then((0:Int)<=(x:Int)/\(x:Int)<(t.parts.length:Int))/\(szT (t.parts.getD x (dfl (.st .term)))<=n/\allT (mxU N) (t.parts.getD x (dfl (.st .term)))=true/\(aL (aL (aL m (iF t)) (useSL t.shapes)) (useTL (t.parts.take x))).length+(useT (t.parts.getD x (dfl (.st .term)))).length<=9000000000000000000)/\inR .i64 ((x:Int)+1)/\∃y:Nat,y<=t.parts.length/\t.parts.length-y<t.parts.length-x/\(x:Int)+1=(y:Int)/\aL (aL (aL (aL m (iF t)) (useSL t.shapes)) (useTL (t.parts.take x))) (useT (t.parts.getD x (dfl (.st .term))))=aL (aL (aL m (iF t)) (useSL t.shapes)) (useTL (t.parts.take y))else aL (aL (aL m (iF t)) (useSL t.shapes)) (useTL (t.parts.take x))=aL m (useT t):=by
  intro k h1;apply aa<;>intro h
  ·replace h:=Xo h;have hk:k<t.parts.length:=by omega
   have hmm:=getD_mem t.parts k (dfl (.st .term)) hk;have hm:=jC hmm;have hh:=DD t.parts k (dfl (.st .term)) hk;have l1:=fD (useTL (t.parts.take k)) (aL (aL m (iF t)) (useSL t.shapes));have l5:=fD (useSL t.shapes) (aL m (iF t));have l3:=JE t.parts (k+1);rw[hh,Oj]at l3;exact⟨by omega,⟨by omega,o3.2 _ hmm,by omega⟩,aA hk lp,k+1,by omega,by omega,by omega,by rw[hh,iD (aL (aL m (iF t)) (useSL t.shapes))]⟩
  ·have e:k=t.parts.length:=by have:¬((k:Int)<(t.parts.length:Int)):=fun e=>h (Xd e);omega
   rw[e,OY,hu,iD,iD]
 have tail:∀x:Nat,x<=t.shapes.length->if decide ((x:Int)<(t.shapes.length:Int))=true then((0:Int)<=(x:Int)/\(x:Int)<(t.shapes.length:Int))/\(sz (t.shapes.getD x (dfl (.st .shape)))<=N/\(aL (aL m (iF t)) (useSL (t.shapes.take x))).length+(useS (t.shapes.getD x (dfl (.st .shape)))).length<=9000000000000000000)/\inR .i64 ((x:Int)+1)/\∃y:Nat,y<=t.shapes.length/\t.shapes.length-y<t.shapes.length-x/\(x:Int)+1=(y:Int)/\aL (aL (aL m (iF t)) (useSL (t.shapes.take x))) (useS (t.shapes.getD x (dfl (.st .shape))))=aL (aL m (iF t)) (useSL (t.shapes.take y))else(∃z:Nat,z<=t.parts.length/\(0:Int)=(z:Int)/\aL (aL m (iF t)) (useSL (t.shapes.take x))=aL (aL (aL m (iF t)) (useSL t.shapes)) (useTL (t.parts.take z)))/\∀q:Nat,q<=t.parts.length->if decide ((q:Int)<(t.parts.length:Int))=true then((0:Int)<=(q:Int)/\(q:Int)<(t.parts.length:Int))/\(szT (t.parts.getD q (dfl (.st .term)))<=n/\allT (mxU N) (t.parts.getD q (dfl (.st .term)))=true/\(aL (aL (aL m (iF t)) (useSL t.shapes)) (useTL (t.parts.take q))).length+(useT (t.parts.getD q (dfl (.st .term)))).length<=9000000000000000000)/\inR .i64 ((q:Int)+1)/\∃y:Nat,y<=t.parts.length/\t.parts.length-y<t.parts.length-q/\(q:Int)+1=(y:Int)/\aL (aL (aL (aL m (iF t)) (useSL t.shapes)) (useTL (t.parts.take q))) (useT (t.parts.getD q (dfl (.st .term))))=aL (aL (aL m (iF t)) (useSL t.shapes)) (useTL (t.parts.take y))else aL (aL (aL m (iF t)) (useSL t.shapes)) (useTL (t.parts.take q))=aL m (useT t):=by
  intro k h1;apply aa<;>intro h
  ·replace h:=Xo h;have hk:k<t.shapes.length:=by omega
   have hmm:=getD_mem t.shapes k (dfl (.st .shape)) hk;have hh:=um t.shapes k (dfl (.st .shape)) hk;have l1:=fD (useSL (t.shapes.take k)) (aL m (iF t));have l3:=AR t.shapes (k+1);rw[hh,Oj]at l3;exact⟨by omega,⟨Xo (o4 _ hmm),by omega⟩,aA hk ls,k+1,by omega,by omega,by omega,by rw[hh,iD (aL m (iF t))]⟩
  ·have e:k=t.shapes.length:=by have:¬((k:Int)<(t.shapes.length:Int)):=fun e=>h (Xd e);omega
   exact⟨⟨0,Of _,rfl,by rw[e,OY];rfl⟩,tail2⟩
 clear tail2 o3 o4;simp only[Oi,Pw,OV,OK];refine aa (fun h1=>aa (fun h2=>?_) (fun h2=>?_)) (fun h1=>?_)
 ·have h1:=Xo h1;have h2:t.pkg≠[]:=by simpa using h2
  have ho:iF t=[⟨t.pkg,t.name⟩]:=O3 ⟨h1,h2⟩;rw[ho]at tail o2⊢;refine⟨by omega,⟨by omega,DC _ _ _⟩,⟨0,Of _,rfl,?_⟩,tail⟩;rw[nW];rfl
 ·have h2:t.pkg=[]:=by simpa using h2
  have ho:iF t=[]:=O0 fun q=>q.2 h2;rw[ho]at tail⊢;exact⟨⟨0,Of _,rfl,rfl⟩,tail⟩
 ·have ho:iF t=[]:=O0 fun q=>h1 (Xd q.1);rw[ho]at tail⊢;exact⟨⟨0,Of _,rfl,rfl⟩,tail⟩
theorem KD(m:List (Nam×Int))  :
  True/\m=m/\True:=by
 exact Xr
theorem KE(m:Modu)(hm:Wf (.st .modu) m)(ho:m.decls.all cP=true/\m.decls.length<=60) :
  let A:=(0:Int);let B:=bq m=A;let C:=m.decls=m.decls;let D:=(↑(List.length m.decls):Int);let E:=m=m/\True;let F:=dfl (Ty.st SN.decl);let G:=(9000000000000000000:Nat);(List.all m.decls cP=true/\List.length m.decls<=(1000000:Nat))/\if(!decide (B))=true then True/\da m=[]/\True else(∃(x:Nat),(B/\x<=List.length m.decls)/\A=(↑x:Int)/\m=m/\false=false/\C/\D=D/\[]=aL [] (cU (List.take x m.decls))/\E)/\∀(x:Nat),let H:=(↑x:Int);let I:=List.getD m.decls (Int.toNat H) F;let J:=aL [] (cU (List.take x m.decls));let K:=useS I.shape;B/\x<=List.length m.decls->if decide (H<D)=true then(A<=H/\H<D)/\(sz I.shape<=(400:Nat)/\List.length J+List.length K<=G)/\(szT I.term<=(4096:Nat)/\allT (mxU (400:Nat)) I.term=true/\List.length (aL J K)+List.length (useT I.term)<=G)/\inR IntKind.i64 (H+(1:Int))/\∃(y:Nat),(B/\y<=List.length m.decls)/\List.length m.decls-y<List.length m.decls-x/\H+(1:Int)=(↑y:Int)/\m=m/\false=false/\C/\D=D/\aL (aL J K) (useT I.term)=aL [] (cU (List.take y m.decls))/\E else List.length J*(32:Nat)<=(140737488355328:Nat)/\True/\gA (List.map (fun(x:den (Ty.st SN.nm)×den (Ty.int IntKind.i64))=>x.1) J)=da m/\True:=by
 conv=>zeta
 obtain⟨o1,o2⟩:=ho;have ld:=hm.modu_decls.len;simp only[Oi,Pw,OV,OK];refine⟨⟨o1,by omega⟩,aa (fun h=>?_) (fun h=>?_)⟩
 ·exact O0 fun e=>by rw[Xd e]at h;cases h
 have h:bq m=0:=by simpa using h
 obtain⟨q1,q2⟩:=JG h o2;refine⟨⟨0,⟨h,Of _⟩,rfl,rfl⟩,?_⟩;rintro k ⟨_,h1⟩;apply aa<;>intro c
 ·have c:=Xo c;have hk:k<m.decls.length:=by omega
  obtain⟨u1,u2,u3,u4⟩:=q1 _ (getD_mem m.decls k (dfl (.st .decl)) hk);have l1:=fD (cU (m.decls.take k)) [];have l2:=fD (useS (m.decls.getD k (dfl (.st .decl))).shape) (aL [] (cU (m.decls.take k)));have l3:=JF m.decls k;have ht:=DE m.decls k (dfl (.st .decl)) hk;rw[qQ,Oj]at u4;rw[ON]at l1;exact⟨by omega,⟨u1,by omega⟩,⟨u2,u3,by omega⟩,aA hk ld,k+1,⟨h,by omega⟩,by omega,by omega,by rw[ht,iD,qQ,iD]⟩
 ·have e:k=m.decls.length:=by have:¬((k:Int)<(m.decls.length:Int)):=fun e=>c (Xd e);omega
  subst e;rw[OY];have l1:=fD (cU m.decls) [];rw[ON]at l1;exact⟨by omega,Kz h⟩
theorem HW(u:Nam)(x:Impt)  :
  True/\decide (u.pkg=x.name)=!rz x u/\x=x/\True:=by
 exact⟨trivial,(Rs _).symm,rfl,trivial⟩
theorem HX(l:List Nam)(x:Impt)(hl:Wf (.lst (.st .nm)) l) :
  let A:=rz x;let B:=(0:Nat);let C:=(↑(List.length l):Int);let D:=x=x/\True;let E:=l=l/\C=C/\D;(∃(x_1:Nat),(x_1<=List.length l/\ba A (List.drop x_1 l) x_1=ba A l B)/\(0:Int)=(↑x_1:Int)/\E)/\∀(x_1:Nat),let F:=(↑x_1:Int);x_1<=List.length l/\ba A (List.drop x_1 l) x_1=ba A l B->if decide (F<C)=true then((0:Int)<=F/\F<C)/\if(!rz x (List.getD l (Int.toNat F) (dfl (Ty.st SN.nm))))=true then True/\F=ba A l B/\D else inR IntKind.i64 (F+(1:Int))/\∃(y:Nat),(y<=List.length l/\ba A (List.drop y l) y=ba A l B)/\List.length l-y<List.length l-x_1/\F+(1:Int)=(↑y:Int)/\E else True/\(-1:Int)=ba A l B/\D:=by
 conv=>zeta
 have ln:=hl.len;simp only[Oi,Pw,OV,OK];refine⟨⟨0,⟨Of _,by simp⟩,rfl⟩,?_⟩;rintro k ⟨h1,h2⟩;apply aa<;>intro h
 ·replace h:=Xo h;have hk:k<l.length:=by omega
  rw[an l k (dfl (.st .nm)) hk,ba]at h2;refine⟨by omega,aa (fun c=>?_) (fun c=>?_)⟩
  ·have c:rz x (l.getD k (dfl (.st .nm)))=false:=by simpa using c
   rw[c,O0 P5]at h2;exact h2
  ·have c:rz x (l.getD k (dfl (.st .nm)))=true:=by simpa using c
   rw[O3 c]at h2;exact⟨aA hk ln,k+1,⟨by omega,h2⟩,by omega,by omega⟩
 ·replace h:¬((k:Int)<(l.length:Int)):=fun e=>h (Xd e);have e:k=l.length:=by omega
  subst e;rw[Ol,ba]at h2;exact h2
theorem HY(l:List Nam)(x:Impt)  :
  True/\decide ((0:Int)<=ba (rz x) l (0:Nat))=dM l x/\x=x/\True:=by
 exact⟨trivial,(iC _ l 0).trans (HT l x),rfl,trivial⟩
theorem KF(m:Modu)(hm:Wf (.st .modu) m)(ho:m.decls.all cP=true/\m.decls.length<=60/\m.imports.length<=20) :
  let A:=List.all m.decls cP=true;let B:=(0:Int);let C:=bq m=B;let D:=da m;let E:=da m=da m;let F:=false=false;let G:=m.imports=m.imports;let H:=(↑(List.length m.imports):Int);let I:=m=m/\True;let J:=dfl (Ty.st SN.imp);let K:=(1:Int);(A/\List.length m.decls<=(60:Nat))/\(A/\List.length m.decls<=(1000000:Nat))/\if(!decide (C))=true then True/\eF m=[]/\True else(∃(x:Nat),let L:=List.take x m.imports;(C/\x<=List.length m.imports)/\cC D L=[]/\B=(↑x:Int)/\m=m/\E/\F/\G/\H=H/\List.length (cC D L)=(0:Nat)/\I)/\∀(x:Nat),let L:=(↑x:Int);let M:=List.getD m.imports (Int.toNat L) J;let N:=List.take x m.imports;let O:=cC D N;let P:=[M.name];let Q:=inR IntKind.i64 (L+K);C/\x<=List.length m.imports->if decide (L<H)=true then(B<=L/\L<H)/\if(!dM D M)=true then(List.length O=List.length O/\(List.length O+List.length P)*(16:Nat)<=(140737488355328:Nat))/\Q/\∃(y:Nat),let R:=List.take y m.imports;(C/\y<=List.length m.imports)/\List.length m.imports-y<List.length m.imports-x/\cC D N++P=cC D R/\L+K=(↑y:Int)/\m=m/\E/\F/\G/\H=H/\List.length (cC D N++P)=List.length (cC D R)/\I else Q/\∃(y:Nat),let R:=List.take y m.imports;(C/\y<=List.length m.imports)/\List.length m.imports-y<List.length m.imports-x/\cC D N=cC D R/\L+K=(↑y:Int)/\m=m/\E/\F/\G/\H=H/\List.length O=List.length (cC D R)/\I else True/\cC D N=eF m/\True:=by
 conv=>zeta
 obtain⟨o1,o2,o3⟩:=ho;have li:=hm.modu_imports.len;have fin:bq m=0->eF m=cC (da m) m.imports:=fun e=>O3 e;simp only[Oi,Pw,OV,OK];refine⟨⟨o1,o2⟩,⟨o1,by omega⟩,aa (fun h=>?_) (fun h=>?_)⟩
 ·exact O0 fun e=>by rw[Xd e]at h;cases h
 have h:bq m=0:=by simpa using h
 refine⟨⟨0,⟨h,Of _⟩,rfl,rfl,rfl⟩,?_⟩;rintro k ⟨_,h1⟩;apply aa<;>intro c
 ·have c:=Xo c;have hk:k<m.imports.length:=by omega
  have ht:=DF (da m) m.imports k (dfl (.st .imp)) hk;have hn:=qa (da m) (m.imports.take k);rw[Pt]at hn;refine⟨by omega,aa (fun f=>?_) (fun f=>?_)⟩
  ·have f:¬dM (da m) (m.imports.getD k (dfl (.st .imp)))=true:=fun g=>by rw[g]at f;cases f
   rw[O0 f]at ht;exact⟨by rw[OI];omega,aA hk li,k+1,⟨h,by omega⟩,by omega,ht.symm,by omega,by rw[ht]⟩
  ·have f:dM (da m) (m.imports.getD k (dfl (.st .imp)))=true:=by simpa using f
   rw[O3 f]at ht;exact⟨aA hk li,k+1,⟨h,by omega⟩,by omega,ht.symm,by omega,by rw[ht]⟩
 ·have e:k=m.imports.length:=by have:¬((k:Int)<(m.imports.length:Int)):=fun e=>c (Xd e);omega
  rw[fin h,e,OY]
theorem Ex(l:List Modu)(N:Nat)(hl:Wf (.lst (.st .modu)) l)(ho:∀m∈l,m.imports.length<=1048576)(hN:∀m∈l,∀d∈m.decls,sz d.shape<=N/\szT d.term<=N) :
  let A:=(0:Int);let B:=(600:Int);let C:=l=l;let D:=True;let E:=(↑(List.length l):Int);let F:=(20:Int);let G:=dfl (Ty.st SN.modu);let H:=D/\false=lgM l A/\D;let I:=(60:Int);let J:=(1:Nat);let K:=true=true;let L:=false=false;let M:=C/\K/\L/\D;let O:=dfl (Ty.st SN.decl);let P:=(300:Int);let Q:=A<=P/\P<=(1000000:Int);let R:=(1:Int);let S:=C/\K/\L/\L/\D;let T:=dfl (Ty.st SN.imp);(∃(x:Nat×Int),(x.1<=List.length l/\A<=x.2/\x.2<=B/\lgM (List.drop x.1 l) x.2=lgM l A)/\A=x.2/\A=(↑x.1:Int)/\C/\D)/\∀(x:Nat×Int),let U:=(↑x.1:Int);let V:=A<=U/\U<E;let W:=List.getD l (Int.toNat U) G;let X:=(↑(List.length W.imports):Int);let Y:=F+X;let Z:=(↑(List.length W.decls):Int);let a:=List.drop (Int.toNat U+J) l;x.1<=List.length l/\A<=x.2/\x.2<=B/\lgM (List.drop x.1 l) x.2=lgM l A->if decide (U<E)=true then V/\inR IntKind.i64 Y/\inR IntKind.i64 (x.2+Y)/\if decide (B<x.2+Y)=true then H else V/\if decide (F<X)=true then H else V/\if decide ((80:Int)<(↑(List.length W.exports):Int))=true then H else V/\if decide (I<Z)=true then H else(∃(x_1:Nat×Int),(x_1.1<=List.length W.decls/\A<=x_1.2/\x_1.2<=B/\lgA (lgD (List.drop x_1.1 W.decls) x_1.2) W (lgM a)=lgM l A)/\x.2+Y=x_1.2/\A=(↑x_1.1:Int)/\U=U/\M)/\∀(x_1:Nat×Int),let b:=(↑x_1.1:Int);let c:=A<=b/\b<Z;let d:=List.getD W.decls (Int.toNat b) O;let e:=fe d.term P+sizeF d.shape P;let f:=x_1.2=x_1.2;let g:=f/\b=b/\U=U/\S;x_1.1<=List.length W.decls/\A<=x_1.2/\x_1.2<=B/\lgA (lgD (List.drop x_1.1 W.decls) x_1.2) W (lgM a)=lgM l A->V/\if decide (b<Z)=true then V/\c/\(szT d.term<=N/\Q)/\V/\c/\(sz d.shape<=N/\Q)/\inR IntKind.i64 e/\inR IntKind.i64 (x_1.2+e)/\if decide (B<x_1.2+e)=true then H else inR IntKind.i64 (b+R)/\∃(y:Nat×Int),(y.1<=List.length W.decls/\A<=y.2/\y.2<=B/\lgA (lgD (List.drop y.1 W.decls) y.2) W (lgM a)=lgM l A)/\List.length W.decls-y.1<List.length W.decls-x_1.1/\x_1.2+e=y.2/\b+R=(↑y.1:Int)/\U=U/\M else(∃(x_2:Nat),(x_2<=List.length W.imports/\(List.all (List.drop x_2 W.imports) lgI&&lgM a x_1.2)=lgM l A)/\A=(↑x_2:Int)/\g)/\∀(x_2:Nat),let h:=(↑x_2:Int);let i:=Int.toNat h;let j:=List.getD W.imports i T;let k:=(↑(List.length j.range):Int);let m:=List.all (List.drop (Int.toNat h+J) W.imports) lgI&&lgM a x_1.2;let n:=h=h/\f/\b=b/\U=U/\C/\K/\L/\L/\K/\L/\List.getD W.imports i T=List.getD W.imports i T/\D;x_2<=List.length W.imports/\(List.all (List.drop x_2 W.imports) lgI&&lgM a x_1.2)=lgM l A->V/\if decide (h<X)=true then V/\(A<=h/\h<X)/\if decide ((30:Int)<k)=true then H else if decide (I<(↑(List.length j.pin.pre):Int))=true then H else(∃(x_3:Nat),(x_3<=List.length j.range/\(lgR (List.drop x_3 j.range)&&m)=lgM l A)/\A=(↑x_3:Int)/\n)/\∀(x_3:Nat),let o:=(↑x_3:Int);x_3<=List.length j.range/\(lgR (List.drop x_3 j.range)&&m)=lgM l A->if decide (o<k)=true then(A<=o/\o<k)/\if decide (I<(↑(List.length (List.getD j.range (Int.toNat o) (dfl (Ty.st SN.bound))).v.pre):Int))=true then H else inR IntKind.i64 (o+R)/\∃(y:Nat),(y<=List.length j.range/\(lgR (List.drop y j.range)&&m)=lgM l A)/\List.length j.range-y<List.length j.range-x_3/\o+R=(↑y:Int)/\n else inR IntKind.i64 (h+R)/\∃(y:Nat),(y<=List.length W.imports/\(List.all (List.drop y W.imports) lgI&&lgM a x_1.2)=lgM l A)/\List.length W.imports-y<List.length W.imports-x_2/\h+R=(↑y:Int)/\g else inR IntKind.i64 (U+R)/\∃(y:Nat×Int),(y.1<=List.length l/\A<=y.2/\y.2<=B/\lgM (List.drop y.1 l) y.2=lgM l A)/\List.length l-y.1<List.length l-x.1/\x_1.2=y.2/\U+R=(↑y.1:Int)/\C/\D else D/\true=lgM l A/\D:=by
 conv=>zeta
 have ln:=hl.len;refine⟨⟨(0,0),⟨Of _,by omega,by omega,rfl⟩,(by repeat' (first|exact trivial|rfl|apply And.intro))⟩,?_⟩;rintro⟨i,n⟩ ⟨h1,h2,h3,h4⟩;dsimp only at h1 h2 h3 h4⊢;apply aa<;>intro hk
 ·have hk:=Xo hk;have hi:i<l.length:=by omega
  have hm:=getD_mem l i (dfl (.st .modu)) hi;have wm:=hl.mem hm;have hNm:=hN _ hm;have li:=ho _ hm;rw[an l i (dfl (.st .modu)) hi,lgM]at h4;have e0:l.getD (Int.toNat (i:Int)) (dfl (.st .modu))=l.getD i (dfl (.st .modu)):=rfl;rw[<-e0]at h4 hm wm hNm li;generalize l.getD (Int.toNat (i:Int)) (dfl (.st .modu))=m at h4 hm wm hNm li⊢;simp only[Oi,Pw,OV,OK];have ld:=wm.modu_decls.len;have bad:lgH m n=false->false=lgM l 0:=fun e=>by rw[e,Oq]at h4;exact h4
  refine⟨by omega,aU (by omega) (by omega),aU (by omega) (by omega),aa (fun c=>bad (PC.2 fun e=>?_)) (fun c1=>⟨by omega,aa (fun c=>bad (PC.2 fun e=>?_)) (fun c2=>⟨by omega,aa (fun c=>bad (PC.2 fun e=>?_)) (fun c3=>⟨by omega,aa (fun c=>bad (PC.2 fun e=>?_)) (fun c4=>?_)⟩)⟩)⟩)⟩
  ·have:=pg.1 e;have:=Xo c;omega
  ·have:=pg.1 e;have:=Xo c;omega
  ·have:=pg.1 e;have:=Xo c;omega
  ·have:=pg.1 e;have:=Xo c;omega
  have d1:¬(600:Int)<n+(20+(m.imports.length:Int)):=fun z=>c1 (Xd z);have d2:¬(20:Int)<(m.imports.length:Int):=fun z=>c2 (Xd z);have d3:¬(80:Int)<(m.exports.length:Int):=fun z=>c3 (Xd z);have d4:¬(60:Int)<(m.decls.length:Int):=fun z=>c4 (Xd z);have e1:lgH m n=true:=pg.2 ⟨by omega,by omega,by omega,by omega⟩;rw[e1,OW]at h4;clear bad e1 c1 c2 c3 c4;refine⟨⟨(0,n+(20+(m.imports.length:Int))),⟨Of _,by simp only;omega,by simp only;omega,h4⟩,rfl,rfl⟩,?_⟩;rintro⟨k,n2⟩ ⟨k1,k2,k3,k4⟩;simp only at k1 k2 k3 k4⊢;refine⟨by omega,aa (fun c=>?_) (fun c=>?_)⟩
  ·have c:=Xo c;have ck:k<m.decls.length:=by omega
   rw[an m.decls k (dfl (.st .decl)) ck,lgD]at k4;obtain⟨z1,z2⟩:=hNm _ (getD_mem m.decls k (dfl (.st .decl)) ck);have a:=sizeT_bd (m.decls.getD k (dfl (.st .decl))).term 300 (by omega);have b:=sizeF_bd (m.decls.getD k (dfl (.st .decl))).shape 300 (by omega);refine⟨by omega,by omega,⟨z2,by omega,by omega⟩,by omega,by omega,⟨z1,by omega,by omega⟩,aU (by omega) (by omega),aU (by omega) (by omega),aa (fun d=>?_) (fun d=>?_)⟩
   ·rw[O3 (Xo d)]at k4;exact k4
   ·have d:¬(600:Int)<n2+(fe (m.decls.getD k (dfl (.st .decl))).term 300+sizeF (m.decls.getD k (dfl (.st .decl))).shape 300):=fun z=>d (Xd z);rw[O0 d]at k4;exact⟨aA ck ld,(k+1,_),⟨by simp only;omega,by simp only;omega,by simp only;omega,k4⟩,by simp only;omega,rfl,rfl⟩
  ·have e:k=m.decls.length:=by have:¬((k:Int)<(m.decls.length:Int)):=fun e=>c (Xd e);omega
   rw[e,Ol,lgD]at k4;refine⟨⟨0,⟨Of _,k4⟩,rfl⟩,?_⟩;rintro q ⟨q1,q2⟩;refine⟨by omega,aa (fun c=>?_) (fun c=>?_)⟩
   ·have c:=Xo c;have cq:q<m.imports.length:=by omega
    rw[an m.imports q (dfl (.st .imp)) cq,P6]at q2;have bad:lgI (m.imports.getD q (dfl (.st .imp)))=false->false=lgM l 0:=fun e=>by rw[e,Oq,Oq]at q2;exact q2
    refine⟨by omega,by omega,aa (fun c=>bad (PC.2 fun e=>?_)) (fun x1=>aa (fun c=>bad (PC.2 fun e=>?_)) (fun x2=>?_))⟩
    ·have:=Fv.1 e;have:=Xo c;omega
    ·have:=Fv.1 e;have:=Xo c;omega
    have y1:¬(30:Int)<((m.imports.getD q (dfl (.st .imp))).range.length:Int):=fun z=>x1 (Xd z);have y2:¬(60:Int)<((m.imports.getD q (dfl (.st .imp))).pin.pre.length:Int):=fun z=>x2 (Xd z);have lx:lgI (m.imports.getD q (dfl (.st .imp)))=lgR (m.imports.getD q (dfl (.st .imp))).range:=by unfold lgI;rw[Xd (show(m.imports.getD q (dfl (.st .imp))).range.length<=30 by omega),Xd (show(m.imports.getD q (dfl (.st .imp))).pin.pre.length<=60 by omega)];rfl
    rw[lx,Bool.and_assoc]at q2;refine⟨⟨0,⟨Of _,q2⟩,rfl⟩,?_⟩;rintro j ⟨j1,j2⟩;apply aa<;>intro c
    ·have c:=Xo c;have hj:j<(m.imports.getD q (dfl (.st .imp))).range.length:=by omega
     rw[an (m.imports.getD q (dfl (.st .imp))).range j (dfl (.st .bound)) hj,KA]at j2;refine⟨by omega,aa (fun d=>?_) (fun d=>?_)⟩
     ·have d:=Xo d;rw[Xf (show ¬((m.imports.getD q (dfl (.st .imp))).range.getD j (dfl (.st .bound))).v.pre.length<=60 by omega),Oq,Oq]at j2;exact j2
     ·have d:¬(60:Int)<(((m.imports.getD q (dfl (.st .imp))).range.getD j (dfl (.st .bound))).v.pre.length:Int):=fun z=>d (Xd z);rw[Xd (show((m.imports.getD q (dfl (.st .imp))).range.getD j (dfl (.st .bound))).v.pre.length<=60 by omega),OW]at j2;exact⟨aU (by omega) (by omega),j+1,⟨by omega,j2⟩,by omega,by omega⟩
    ·have e:j=(m.imports.getD q (dfl (.st .imp))).range.length:=by have:¬((j:Int)<((m.imports.getD q (dfl (.st .imp))).range.length:Int)):=fun e=>c (Xd e);omega
     rw[e,Ol]at j2;exact⟨aU (by omega) (by omega),q+1,⟨by omega,j2⟩,by omega,by omega⟩
   ·have e:q=m.imports.length:=by have:¬((q:Int)<(m.imports.length:Int)):=fun e=>c (Xd e);omega
    rw[e,Ol]at q2;exact⟨aA hi ln,(i+1,n2),⟨by simp only;omega,k2,k3,q2⟩,by simp only;omega,rfl,rfl⟩
 ·have e:i=l.length:=by have:¬((i:Int)<(l.length:Int)):=fun e=>hk (Xd e);omega
  rw[e,Ol]at h4;exact⟨trivial,h4,trivial⟩
end Go.AL.Seat
end
