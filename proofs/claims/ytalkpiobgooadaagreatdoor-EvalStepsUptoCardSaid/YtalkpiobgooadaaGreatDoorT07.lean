/- Plain facts. The layer: Go code as conditions, and that they are sound. No condition. -/
import Derived.Test.YtalkpiobgooadaaGreatDoorT06
import Derived.ChangeMaps
import Derived.Deep.DeepWitnessRowRef
import Derived.JoinedCond
import Derived.Lib.LaidIn
import Derived.Lib.LaidU8T
import Derived.OpenShut
import Derived.PinnedBridge
import Derived.ProofKit
import Derived.Shelf.Vars
import Derived.Test.YtalkpiobgooadaaGreatDoorCards
import Derived.Test.YtalkpiobgooadaaGreatDoorTie
import Derived.WalkKit
import Derived.WideKeyArgs
set_option linter.all false
set_option maxRecDepth 100000
section
open Go Go.AL Go.Proofs Go.Shelf Go.Pd
namespace Go.AL.Seat
variable [Tabs]
def nn:Nat->Bool:=fun _=>false
def cf(k:Nat->Bool)(l:Nat->List (Option Nat))(p r m:Nat->Bool)(s:Nat->List AV->List (Nat×SObj)->Option Ans):Cfg:=⟨tbl,s,k,l,p,r,m⟩
def a0:An:=⟨[],[],[]⟩
theorem g1(k:Nat->Bool)(l:Nat->List (Option Nat))(p r m:Nat->Bool){s:Nat->List AV->List (Nat×SObj)->Option Ans}(hS:bz Tryz.prog s)(a:An){f:Nat}{fn:Func}(hf:Tryz.prog.funcs[f]?=some fn)
 {args:List AV}{S:List (Nat×SObj)}{A:Ans}{Q:Prop}(q:Q)(h:fwp (cf k l p r m s) a fn args S A=Q:=by kernel_rfl):an Tryz.prog f args S A:=GS (C:=cf k l p r m s) mixed vb hS hf q h
theorem g0{s:Nat->List AV->List (Nat×SObj)->Option Ans}(hS:bz Tryz.prog s)(a:An){f:Nat}{fn:Func}(hf:Tryz.prog.funcs[f]?=some fn)
 {args:List AV}{S:List (Nat×SObj)}{A:Ans}{Q:Prop}(q:Q)(h:fwp (cf nn (fun _=>[]) nn nn nn s) a fn args S A=Q:=by kernel_rfl):an Tryz.prog f args S A:=GS (C:=cf nn (fun _=>[]) nn nn nn s) mixed vb hS hf q h
theorem sc{f:Nat}{g:Pat}{l:List (Nat×Pat)}(h:ag Tryz.prog f g)(hl:bz Tryz.prog (ep l)):bz Tryz.prog (ep ((f,g)::l)):=iA h hl
theorem sn:bz Tryz.prog (ep []):=jn
theorem ee{f:Nat}{fn:Func}(h:Tryz.prog.funcs[f]?=some fn)(e:(fn.body.isNone || (fn.name == "runtime.NumGoroutine"))=false:=by kernel_rfl):aq Tryz.prog f:=aq.mk' h e
variable [SeatLaid] [SeatPow]
theorem pD:ag Tryz.prog 99 (p1 (.int .u8) fun c=>.ret (.bool (cW c))):=
 bp (ee Tryz.func99) fun c _ _=>g0 sn a0 Tryz.func99 (I8 c)
theorem pF:ag Tryz.prog 100 (p1 (.int .u8) fun c=>.ret (.bool (df c))):=
 bp (ee Tryz.func100) fun c _ _=>g0 sn a0 Tryz.func100 (I9 c)
theorem FJ:ag Tryz.prog 103 (p1 (.int .u8) fun c=>.ret (.bool (gR c))):=
 bp (ee Tryz.func103) fun c _ _=>g0 sn a0 Tryz.func103 (Ia c)
theorem zu:ag Tryz.prog 101 (p1 (.int .u8) fun c=>.ret (.bool (gN c))):=
 bp (ee Tryz.func101) fun c _ _=>g0 (sc pD (sc pF (sc FJ sn))) a0 Tryz.func101 (Kb c)
theorem Cw:ag Tryz.prog 123 (pf .str 99 fun s=>.ret (.bool (cX cW s))):=
 kB (ee Tryz.func123) fun s hs _=>g0 (sc pD (sc pF (sc zu sn))) ⟨[(4,fun S0=>⟨Nat,fun k=>k<=s.length/\cX cW s=(s.drop k).all fun c=>gN (bI c),fun k=>[(22,.int .i64 k)],fun _=>[],fun k=>s.length-k⟩)],[],[]⟩ Tryz.func123 (Fg s hs)
theorem Cx:ag Tryz.prog 123 (pf .str 100 fun s=>.ret (.bool (cX df s))):=
 kB (ee Tryz.func123) fun s hs _=>g0 (sc pD (sc pF (sc zu sn))) ⟨[(4,fun S0=>⟨Nat,fun k=>k<=s.length/\cX df s=(s.drop k).all fun c=>gN (bI c),fun k=>[(22,.int .i64 k)],fun _=>[],fun k=>s.length-k⟩)],[],[]⟩ Tryz.func123 (Fh s hs)
theorem IC:ag Tryz.prog 102 (p1 .str fun s=>.ret (.bool (yq s))):=
 bp (ee Tryz.func102) fun s _ _=>g0 sn a0 Tryz.func102 (Kc s)
theorem fO:ag Tryz.prog 66 (p1 .str fun s=>.ret (.bool (ay s))):=
 bp (ee Tryz.func66) fun s _ _=>g0 (sc Cw (sc IC sn)) a0 Tryz.func66 (Kd s)
theorem ij:ag Tryz.prog 71 (p1 .str fun s=>.ret (.bool (dh s))):=
 bp (ee Tryz.func71) fun s _ _=>g0 (sc Cx sn) a0 Tryz.func71 (Ib s)
theorem tz:ag Tryz.prog 73 (p2 (.lst .str) .str fun a v=>.ret (.int .i64 (bj a v 0))):=
 cP (ee Tryz.func73) fun a v ha _ _=>g0 sn ⟨[(2,fun S0=>⟨Nat,fun k=>k<=a.length/\bj a v 0=bj (a.drop k) v k,fun k=>[(8,.int .i64 k)],fun _=>[],fun k=>a.length-k⟩)],[],[]⟩ Tryz.func73 (Fi a v ha)
theorem mT:ag Tryz.prog 33 (p2 (.lst .str) .str fun a v=>.ret (.bool (decide (v∈a)))):=
 cP (ee Tryz.func33) fun a v _ _ _=>g0 (sc tz sn) a0 Tryz.func33 (wU a v)
theorem FK:ag Tryz.prog 254 (p1 .str fun s=>.ret (.bool (nv s))):=
 bp (ee Tryz.func254) fun s _ _=>g0 sn a0 Tryz.func254 (Ic s)
theorem kx:ag Tryz.prog 131 (p1 (.lst .str) fun a=>⟨none,none,.fn 201 [.ptr 1 0],[(1,.box (.lst .str a none))]⟩):=
 bp (ee Tryz.func131) fun a _ _=>g0 sn a0 Tryz.func131 (Fj a)
theorem FL:ag Tryz.prog 253 (p1 (.st .shape) fun s=>⟨some (s.parts.length *16<=140737488355328),none,.bool (eU s),[]⟩):=
 bp (ee Tryz.func253) fun s hs ho=>g0 (sc fO (sc kx (sc (ke) (sc (iZ) sn)))) ⟨[(4,fun S0=>⟨Nat,fun k=>k<=s.names.length/\s.names.length=s.parts.length/\eU s=(((s.names.drop k).all ay)&&decide s.names.Nodup),fun k=>[(16,.int .i64 k)],fun _=>[],fun k=>s.names.length-k⟩)],[],[]⟩ Tryz.func253 (Ie s hs (ho _ rfl))
theorem ID:ag Tryz.prog 196 (p1 (.st .shape) fun s=>⟨some (s.parts.length *16<=140737488355328),none,.bool (cJ s),[]⟩):=
 bp (ee Tryz.func196) fun s hs ho=>g0 (sc FL (sc ij (sc fO (sc FK sn)))) a0 Tryz.func196 (Ke s hs (ho _ rfl))
theorem tA:aq Tryz.prog 195:=ee Tryz.func195
theorem uk(n:Nat)(s:AL.Shape)(hs:Wf (.st .shape) s)(hn:sz s<=n+1)(hb:n<=1000000)(hA:ag Tryz.prog 195 (pf (.st .shape) 196 fun s=>⟨some (sz s<=n),none,.bool (allS cJ s),[]⟩)):an Tryz.prog 195 [.st .shape s,.fn 196 []] [] (.ret (.bool (allS cJ s))):=
 g0 (sc ID (sc (hA) sn)) ⟨[(4,fun S0=>⟨Nat,fun k=>k<=s.parts.length/\allS cJ s=allL cJ (s.parts.drop k),fun k=>[(14,.int .i64 k)],fun _=>[],fun k=>s.parts.length-k⟩)],[],[]⟩ Tryz.func195 (Ca n s hs hn hb)
theorem zw:∀n:Nat,n<=1000000->ag Tryz.prog 195 (pf (.st .shape) 196 fun s=>⟨some (sz s<=n),none,.bool (allS cJ s),[]⟩):=by
 intro n
 induction n with
 |zero=>exact fun _=>kB tA fun a hs ho=>absurd (ho _ rfl) (by have:=nw a;omega)
 |succ n ih=>exact fun hb=>kB tA fun a hs ho=>uk n a hs (ho _ rfl) (by omega) (ih (by omega))
theorem IE:ag Tryz.prog 252 (wE 297):=
 BB (ee Tryz.func252) fun c hc=>g0 sn a0 Tryz.func252 (Kf c hc)
theorem DX:aq Tryz.prog 251:=ee Tryz.func251
theorem Cy(n:Nat)(s:AL.Shape)(l c:Int)(hs:Wf (.st .shape) s)(hn:sz s<=n+1)(hc:0<=c/\c<=400/\1<=l/\l<=c+1)(hA:ag Tryz.prog 251 (qJ 297 252 n)):an Tryz.prog 251 [.st .shape s,.int .i64 l,.fn 252 [.ptr 900 0]] [(900,.box (.int .i64 c))] (Ha 297 s l c (sz s<=n+1)):=
 g0 (sc IE (sc (hA) sn)) ⟨[(4,fun S0=>⟨Nat×Int,fun x=>x.1<=s.parts.length/\c+1+(szL (s.parts.take x.1):Int)<=400/\deepL (s.parts.drop x.1) (l+1) x.2=deepS s l,fun x=>[(7,.int .i64 x.2),(16,.int .i64 x.1)],fun x=>[(900,.box (.int .i64 (c+1+(szL (s.parts.take x.1):Int))))],fun x=>s.parts.length-x.1⟩)],[],[]⟩ Tryz.func251 (Kg n s l c hs hn hc)
theorem IF:∀n:Nat,ag Tryz.prog 251 (qJ 297 252 n):=by
 intro n
 induction n with
 |zero=>exact sC DX fun s l c hs hn hc=>absurd hn (by have:=nw s;omega)
 |succ n ih=>exact sC DX fun s l c hs hn hc=>Cy n s l c hs hn hc ih
theorem zx(s:AL.Shape)(hs:Wf (.st .shape) s) :an Tryz.prog 194 [.st .shape s] [] (.ret (.tup [.int .i64 (if sz s<=400 then(sz s:Int)else 401),.int .i64 (if sz s<=400 then deepS s 1 else 0),.bool (decide (sz s<=400))])):=
 fwpR_sound (C:=⟨tbl,_,fun _=>false,fun _=>[],fun _=>false,fun _=>false,fun _=>false⟩) (ann:=⟨[],[],[]⟩) (annC:=⟨[],[],[]⟩) mixed vb (iA (IF (sz s)) (jn)) Tryz.func194 Tryz.func250 (enters_of Tryz.func250 (by kernel_rfl) rfl) (@Eq.mpr _ _ (by kernel_rfl) (Ig s hs))
theorem FM:ag Tryz.prog 194 (p1 (.st .shape) fun s=>.ret (.tup [.int .i64 (if sz s<=400 then(sz s:Int)else 401),.int .i64 (if sz s<=400 then deepS s 1 else 0),.bool (decide (sz s<=400))])):=
 bp (ee Tryz.func194) fun s hs _=>zx s hs
theorem pG:ag Tryz.prog 128 (p1 (.st .shape) fun s=>.ret (.int .i64 (di s))):=
 bp (ee Tryz.func128) fun s _ _=>g0 (sc (FM) (sc (zw 400 (by decide)) sn)) a0 Tryz.func128 (Ih s)
theorem DY:aq Tryz.prog 12:=ee Tryz.func12
theorem Cz(n:Nat)(s:AL.Shape)(m:Int)(hs:Wf (.st .shape) s)(ho:sz s<=n+1/\0<=m/\m<=1000000)(hA:ag Tryz.prog 12 (p2 (.st .shape) (.int .i64) fun s m=>⟨some (sz s<=n/\0<=m/\m<=1000000),none,.int .i64 (sizeF s m),[]⟩)):an Tryz.prog 12 [.st .shape s,.int .i64 m] [] (.ret (.int .i64 (sizeF s m))):=
 g0 (sc (hA) sn) ⟨[(3,fun S0=>⟨Nat×Int,fun x=>x.1<=s.parts.length/\1<=x.2/\x.2<=m+1/\sizeL (s.parts.drop x.1) x.2 m=sizeF s m,fun x=>[(5,.int .i64 x.2),(6,.int .i64 x.1)],fun _=>[],fun x=>s.parts.length-x.1⟩)],[],[]⟩ Tryz.func12 (Kh n s m hs ho)
theorem IG:∀n:Nat,ag Tryz.prog 12 (p2 (.st .shape) (.int .i64) fun s m=>⟨some (sz s<=n/\0<=m/\m<=1000000),none,.int .i64 (sizeF s m),[]⟩):=by
 intro n
 induction n with
 |zero=>exact cP DY fun a m _ _ ho=>absurd (ho _ rfl).1 (by have:=nw a;omega)
 |succ n ih=>exact cP DY fun a m ha _ ho=>Cz n a m ha (ho _ rfl) ih
theorem vt:aq Tryz.prog 59:=ee Tryz.func59
theorem wV(n:Nat)(t:Trm)(m:Int)(hs:Wf (.st .term) t)(hz:szT t<=n+1)(h0:0<=m)(h1:m<=1000000)(hA:ag Tryz.prog 59 (p2 (.st .term) (.int .i64) fun t m=>⟨some (szT t<=n/\0<=m/\m<=1000000),none,.tup [.int .i64 (countT t m).1,.int .i64 (countT t m).2],[]⟩)):an Tryz.prog 59 [.st .term t,.int .i64 m] [] (⟨some (szT t<=n+1/\0<=m/\m<=1000000),none,.tup [.int .i64 (countT t m).1,.int .i64 (countT t m).2],[]⟩):=
 g0 (sc (hA) sn) ⟨[(3,fun S0=>⟨Nat×Int×Int,fun y=>y.1<=t.parts.length/\1<=y.2.1/\y.2.1<=m+1/\0<=y.2.2/\y.2.2+1<=y.2.1/\countL (t.parts.drop y.1) m y.2.1 y.2.2=countL t.parts m 1 0,fun y=>[(6,.int .i64 y.2.1),(7,.int .i64 y.2.2),(15,.int .i64 y.1)],fun _=>[],fun y=>t.parts.length-y.1⟩)],[],[]⟩ Tryz.func59 (Fk n t m hs hz h0 h1)
theorem tB:∀n:Nat,ag Tryz.prog 59 (p2 (.st .term) (.int .i64) fun t m=>⟨some (szT t<=n/\0<=m/\m<=1000000),none,.tup [.int .i64 (countT t m).1,.int .i64 (countT t m).2],[]⟩)
 |0=>cP vt fun t m hs _ ho=>absurd (ho _ rfl).1 (by have:=kf t;omega)
 |n+1=>cP vt fun t m hs _ ho=>wV n t m hs (ho _ rfl).1 (ho _ rfl).2.1 (ho _ rfl).2.2 (tB n)
theorem zy:ag Tryz.prog 242 (pcl .str 66 fun x=>⟨none,none,.bool (!ay x),[]⟩):=
 pk (ee Tryz.func242) fun x _ ho=>g0 (sc fO sn) a0 Tryz.func242 (Cb x)
theorem zA:ag Tryz.prog 277 (pfc (.lst .str) 242 66 fun l=>⟨none,none,.int .i64 (aF ay l 0),[]⟩):=
 gS (ee Tryz.func277) fun l hl ho=>g0 (sc zy sn) ⟨[(2,fun S0=>⟨Nat,fun k=>k<=l.length/\aF ay (l.drop k) k=aF ay l 0,fun k=>[(8,.int .i64 k)],fun _=>[],fun k=>l.length-k⟩)],[],[]⟩ Tryz.func277 (Cc l hl)
theorem zB:ag Tryz.prog 241 (pfc (.lst .str) 242 66 fun l=>⟨none,none,.bool (!l.all ay),[]⟩):=
 gS (ee Tryz.func241) fun l _ ho=>g0 (sc zA sn) a0 Tryz.func241 (Cd l)
theorem vu:ag Tryz.prog 185 (pf (.lst .str) 66 fun l=>⟨none,none,.bool (l.all ay),[]⟩):=
 kB (ee Tryz.func185) fun l _ ho=>g0 (sc zB sn) a0 Tryz.func185 (Ii l)
theorem FN:ag Tryz.prog 184 (p1 (.lst .str) fun l=>⟨some (l.length *16<=140737488355328),none,.bool (l.all ay&&decide l.Nodup),[]⟩):=
 bp (ee Tryz.func184) fun l _ ho=>g0 (sc kx (sc (ke) (sc vu (sc (iZ) sn)))) a0 Tryz.func184 (Ij l (ho _ rfl))
theorem CA:aq Tryz.prog 238:=ee Tryz.func238
theorem um(n:Nat)(x:Shape) (ho:sz x<=n)(hA:ag Tryz.prog 239 (p1 (.st .shape) fun s=>⟨some (sz s<=n),none,.bool (allS aI s),[]⟩)):an Tryz.prog 238 [.st .shape x,.ptr 900 0] [(900,.box (.fn 239 []))] (⟨some (sz x<=n),none,.bool (!(allS aI) x),[]⟩):=
 g0 (sc (hA) sn) a0 Tryz.func238 (Ce n x ho)
theorem zC(n:Nat)(hA:ag Tryz.prog 239 (p1 (.st .shape) fun s=>⟨some (sz s<=n),none,.bool (allS aI s),[]⟩)):ag Tryz.prog 238 (pcl (.st .shape) 239 fun x=>⟨some (sz x<=n),none,.bool (!(allS aI) x),[]⟩):=
 pk CA fun x _ ho=>um n x (ho _ rfl) hA
theorem CB:aq Tryz.prog 255:=ee Tryz.func255
theorem uo(n:Nat)(l:List AL.Shape) (hl:Wf (.lst (.st .shape)) l)(ho:∀x∈l,sz x<=n)(hA:ag Tryz.prog 239 (p1 (.st .shape) fun s=>⟨some (sz s<=n),none,.bool (allS aI s),[]⟩)):an Tryz.prog 255 [.lst (.st .shape) l none,.fn 238 [.ptr 900 0]] [(900,.box (.fn 239 []))] (⟨some (∀x∈l,sz x<=n),none,.int .i64 (aF (allS aI) l 0),[]⟩):=
 g0 (sc ((zC n hA)) sn) ⟨[(2,fun S0=>⟨Nat,fun k=>k<=l.length/\aF (allS aI) (l.drop k) k=aF (allS aI) l 0,fun k=>[(8,.int .i64 k)],fun _=>[],fun k=>l.length-k⟩)],[],[]⟩ Tryz.func255 (Cf n l hl ho)
theorem zD(n:Nat)(hA:ag Tryz.prog 239 (p1 (.st .shape) fun s=>⟨some (sz s<=n),none,.bool (allS aI s),[]⟩)):ag Tryz.prog 255 (pfc (.lst (.st .shape)) 238 239 fun l=>⟨some (∀x∈l,sz x<=n),none,.int .i64 (aF (allS aI) l 0),[]⟩):=
 gS CB fun l hl ho=>uo n l hl (ho _ rfl) hA
theorem CC:aq Tryz.prog 197:=ee Tryz.func197
theorem uq(n:Nat)(l:List AL.Shape) (ho:∀x∈l,sz x<=n)(hA:ag Tryz.prog 239 (p1 (.st .shape) fun s=>⟨some (sz s<=n),none,.bool (allS aI s),[]⟩)):an Tryz.prog 197 [.lst (.st .shape) l none,.fn 238 [.ptr 900 0]] [(900,.box (.fn 239 []))] (⟨some (∀x∈l,sz x<=n),none,.bool (!l.all (allS aI)),[]⟩):=
 g0 (sc ((zD n hA)) sn) a0 Tryz.func197 (Cg n l ho)
theorem zF(n:Nat)(hA:ag Tryz.prog 239 (p1 (.st .shape) fun s=>⟨some (sz s<=n),none,.bool (allS aI s),[]⟩)):ag Tryz.prog 197 (pfc (.lst (.st .shape)) 238 239 fun l=>⟨some (∀x∈l,sz x<=n),none,.bool (!l.all (allS aI)),[]⟩):=
 gS CC fun l _ ho=>uq n l (ho _ rfl) hA
theorem IH:aq Tryz.prog 181:=ee Tryz.func181
theorem zG(n:Nat)(l:List AL.Shape) (ho:∀x∈l,sz x<=n)(hA:ag Tryz.prog 239 (p1 (.st .shape) fun s=>⟨some (sz s<=n),none,.bool (allS aI s),[]⟩)):an Tryz.prog 181 [.lst (.st .shape) l none,.fn 239 []] [] (⟨some (∀x∈l,sz x<=n),none,.bool (l.all (allS aI)),[]⟩):=
 g0 (sc ((zF n hA)) sn) a0 Tryz.func181 (Ik n l ho)
theorem FO(n:Nat)(hA:ag Tryz.prog 239 (p1 (.st .shape) fun s=>⟨some (sz s<=n),none,.bool (allS aI s),[]⟩)):ag Tryz.prog 181 (pf (.lst (.st .shape)) 239 fun l=>⟨some (∀x∈l,sz x<=n),none,.bool (l.all (allS aI)),[]⟩):=
 kB IH fun l _ ho=>zG n l (ho _ rfl) hA
theorem DZ:aq Tryz.prog 239:=ee Tryz.func239
theorem CD(n:Nat)(s:AL.Shape)(ho:sz s<=n+1)(hE:ag Tryz.prog 181 (pf (.lst (.st .shape)) 239 fun l=>⟨some (∀x∈l,sz x<=n),none,.bool (l.all (allS aI)),[]⟩)):an Tryz.prog 239 [.st .shape s] [] (⟨some (sz s<=n+1),none,.bool (allS aI s),[]⟩):=
 g0 (sc (hE) sn) a0 Tryz.func239 (Ki n s ho)
theorem zH:∀n:Nat,ag Tryz.prog 239 (p1 (.st .shape) fun s=>⟨some (sz s<=n),none,.bool (allS aI s),[]⟩)
 |0=>bp DZ fun s _ ho=>absurd (ho _ rfl) (by have:=nw s;omega)
 |n+1=>bp DZ fun s _ ho=>CD n s (ho _ rfl) (FO n (zH n))
theorem CE:ag Tryz.prog 182 (p1 (.st .shape) fun s=>.ret (.bool (decide (di s=0)&&allS aI s))):=
 bp (ee Tryz.func182) fun s _ _=>g0 (sc pG (sc (zH 400) sn)) a0 Tryz.func182 (Fl s)
theorem Kx:ag Tryz.prog 180 (p1 (.st .term) fun t=>.ret (.agg [.int .i64 (t.names.length:Int),.int .i64 (t.vars.length:Int),.int .i64 (t.shapes.length:Int),.int .i64 (t.parts.length:Int)])):=
 bp (ee Tryz.func180) fun t _ _=>g0 sn a0 Tryz.func180 (LU t)
theorem FP:ag Tryz.prog 183 (p1 .str fun s=>.ret (.bool (sP s))):=
 bp (ee Tryz.func183) fun s hs _=>g0 (sc (ET) sn) ⟨[(2,fun S0=>⟨Nat,fun k=>k<=s.length/\(s.all iB)=(s.drop k).all iB,fun k=>[(8,.int .i64 k)],fun _=>[],fun k=>s.length-k⟩)],[],[]⟩ Tryz.func183 (Il s hs)
theorem wW:ag Tryz.prog 238 (pcl (.st .shape) 182 fun x=>⟨none,none,.bool (!cr x),[]⟩):=
 pk (ee Tryz.func238) fun x _ ho=>g0 (sc CE sn) a0 Tryz.func238 (zm x)
theorem wX:ag Tryz.prog 255 (pfc (.lst (.st .shape)) 238 182 fun l=>⟨none,none,.int .i64 (aF cr l 0),[]⟩):=
 gS (ee Tryz.func255) fun l hl ho=>g0 (sc wW sn) ⟨[(2,fun S0=>⟨Nat,fun k=>k<=l.length/\aF cr (l.drop k) k=aF cr l 0,fun k=>[(8,.int .i64 k)],fun _=>[],fun k=>l.length-k⟩)],[],[]⟩ Tryz.func255 (zn l hl)
theorem wY:ag Tryz.prog 197 (pfc (.lst (.st .shape)) 238 182 fun l=>⟨none,none,.bool (!l.all cr),[]⟩):=
 gS (ee Tryz.func197) fun l _ ho=>g0 (sc wX sn) a0 Tryz.func197 (zo l)
theorem CF:ag Tryz.prog 181 (pf (.lst (.st .shape)) 182 fun l=>⟨none,none,.bool (l.all cr),[]⟩):=
 kB (ee Tryz.func181) fun l _ ho=>g0 (sc wY sn) a0 Tryz.func181 (Fm l)
theorem FQ:ag Tryz.prog 120 (p1 (.st .term) fun t=>⟨some (t.names.length<=8796093022208),none,.bool (aV t),[]⟩):=
 bp (ee Tryz.func120) fun t ht ho=>g0 (sc Kx (sc CF (sc FP (sc fO (sc FN (sc vu (sc ij sn))))))) ⟨[],[],[(2,fun S0=>⟨[(34,.bool (!qg t))],[]⟩)]⟩ Tryz.func120 (Im t ht (ho _ rfl))
theorem zI:aq Tryz.prog 187:=ee Tryz.func187
theorem tC(n:Nat)(x:Trm) (ho:szT x<=n/\bR x=true)(hA:ag Tryz.prog 60 (p1 (.st .term) fun t=>⟨some (szT t<=n/\bR t=true),none,.bool (allT aV t),[]⟩)):an Tryz.prog 187 [.st .term x,.ptr 900 0] [(900,.box (.fn 60 []))] (⟨some (szT x<=n/\bR x=true),none,.bool (!(allT aV) x),[]⟩):=
 g0 (sc (hA) sn) a0 Tryz.func187 (zp n x ho)
theorem wZ(n:Nat)(hA:ag Tryz.prog 60 (p1 (.st .term) fun t=>⟨some (szT t<=n/\bR t=true),none,.bool (allT aV t),[]⟩)):ag Tryz.prog 187 (pcl (.st .term) 60 fun x=>⟨some (szT x<=n/\bR x=true),none,.bool (!(allT aV) x),[]⟩):=
 pk zI fun x _ ho=>tC n x (ho _ rfl) hA
theorem zJ:aq Tryz.prog 243:=ee Tryz.func243
theorem tD(n:Nat)(l:List Trm) (hl:Wf (.lst (.st .term)) l)(ho:∀x∈l,szT x<=n/\bR x=true)(hA:ag Tryz.prog 60 (p1 (.st .term) fun t=>⟨some (szT t<=n/\bR t=true),none,.bool (allT aV t),[]⟩)):an Tryz.prog 243 [.lst (.st .term) l none,.fn 187 [.ptr 900 0]] [(900,.box (.fn 60 []))] (⟨some (∀x∈l,szT x<=n/\bR x=true),none,.int .i64 (aF (allT aV) l 0),[]⟩):=
 g0 (sc ((wZ n hA)) sn) ⟨[(2,fun S0=>⟨Nat,fun k=>k<=l.length/\aF (allT aV) (l.drop k) k=aF (allT aV) l 0,fun k=>[(8,.int .i64 k)],fun _=>[],fun k=>l.length-k⟩)],[],[]⟩ Tryz.func243 (zq n l hl ho)
theorem xa(n:Nat)(hA:ag Tryz.prog 60 (p1 (.st .term) fun t=>⟨some (szT t<=n/\bR t=true),none,.bool (allT aV t),[]⟩)):ag Tryz.prog 243 (pfc (.lst (.st .term)) 187 60 fun l=>⟨some (∀x∈l,szT x<=n/\bR x=true),none,.int .i64 (aF (allT aV) l 0),[]⟩):=
 gS zJ fun l hl ho=>tD n l hl (ho _ rfl) hA
theorem zK:aq Tryz.prog 186:=ee Tryz.func186
theorem tE(n:Nat)(l:List Trm) (ho:∀x∈l,szT x<=n/\bR x=true)(hA:ag Tryz.prog 60 (p1 (.st .term) fun t=>⟨some (szT t<=n/\bR t=true),none,.bool (allT aV t),[]⟩)):an Tryz.prog 186 [.lst (.st .term) l none,.fn 187 [.ptr 900 0]] [(900,.box (.fn 60 []))] (⟨some (∀x∈l,szT x<=n/\bR x=true),none,.bool (!l.all (allT aV)),[]⟩):=
 g0 (sc ((xa n hA)) sn) a0 Tryz.func186 (zr n l ho)
theorem xb(n:Nat)(hA:ag Tryz.prog 60 (p1 (.st .term) fun t=>⟨some (szT t<=n/\bR t=true),none,.bool (allT aV t),[]⟩)):ag Tryz.prog 186 (pfc (.lst (.st .term)) 187 60 fun l=>⟨some (∀x∈l,szT x<=n/\bR x=true),none,.bool (!l.all (allT aV)),[]⟩):=
 gS zK fun l _ ho=>tE n l (ho _ rfl) hA
theorem FR:aq Tryz.prog 121:=ee Tryz.func121
theorem xc(n:Nat)(l:List Trm) (ho:∀x∈l,szT x<=n/\bR x=true)(hA:ag Tryz.prog 60 (p1 (.st .term) fun t=>⟨some (szT t<=n/\bR t=true),none,.bool (allT aV t),[]⟩)):an Tryz.prog 121 [.lst (.st .term) l none,.fn 60 []] [] (⟨some (∀x∈l,szT x<=n/\bR x=true),none,.bool (l.all (allT aV)),[]⟩):=
 g0 (sc ((xb n hA)) sn) a0 Tryz.func121 (Fo n l ho)
theorem CG(n:Nat)(hA:ag Tryz.prog 60 (p1 (.st .term) fun t=>⟨some (szT t<=n/\bR t=true),none,.bool (allT aV t),[]⟩)):ag Tryz.prog 121 (pf (.lst (.st .term)) 60 fun l=>⟨some (∀x∈l,szT x<=n/\bR x=true),none,.bool (l.all (allT aV)),[]⟩):=
 kB FR fun l _ ho=>xc n l (ho _ rfl) hA
theorem vv:aq Tryz.prog 60:=ee Tryz.func60
theorem xe(n:Nat)(t:Trm)(ho:szT t<=n+1/\bR t=true)(hE:ag Tryz.prog 121 (pf (.lst (.st .term)) 60 fun l=>⟨some (∀x∈l,szT x<=n/\bR x=true),none,.bool (l.all (allT aV)),[]⟩)):an Tryz.prog 60 [.st .term t] [] (⟨some (szT t<=n+1/\bR t=true),none,.bool (allT aV t),[]⟩):=
 g0 (sc FQ (sc (hE) sn)) a0 Tryz.func60 (Fp n t ho)
theorem tF:∀n:Nat,ag Tryz.prog 60 (p1 (.st .term) fun t=>⟨some (szT t<=n/\bR t=true),none,.bool (allT aV t),[]⟩)
 |0=>bp vv fun t _ ho=>absurd (ho _ rfl).1 (by have:=kf t;omega)
 |n+1=>bp vv fun t _ ho=>xe n t (ho _ rfl) (CG n (tF n))
theorem xf(x:Trm)(ho:bR x=true) :an Tryz.prog 25 [.st .term x] [] (⟨some (bR x=true),none,.int .i64 (cY x),[]⟩):=
 g0 (sc (tB (szT x)) (sc (tF (szT x)) sn)) a0 Tryz.func25 (Fq x ho)
theorem nE:ag Tryz.prog 25 (p1 (.st .term) fun t=>⟨some (bR t=true),none,.int .i64 (cY t),[]⟩):=
 bp (ee Tryz.func25) fun t _ ho=>xf t (ho _ rfl)
theorem zL:aq Tryz.prog 11:=ee Tryz.func11
theorem zM(n:Nat)(s:Trm)(m:Int)(hs:Wf (.st .term) s)(ho:szT s<=n+1/\0<=m/\m<=1000000)(hA:ag Tryz.prog 11 (p2 (.st .term) (.int .i64) fun s m=>⟨some (szT s<=n/\0<=m/\m<=1000000),none,.int .i64 (dG s m),[]⟩)):an Tryz.prog 11 [.st .term s,.int .i64 m] [] (.ret (.int .i64 (dG s m))):=
 g0 (sc (hA) sn) ⟨[(3,fun S0=>⟨Nat×Int,fun x=>x.1<=s.parts.length/\1<=x.2/\x.2<=m+1/\sizeTL (s.parts.drop x.1) x.2 m=dG s m,fun x=>[(5,.int .i64 x.2),(6,.int .i64 x.1)],fun _=>[],fun x=>s.parts.length-x.1⟩)],[],[]⟩ Tryz.func11 (Io n s m hs ho)
theorem FT:∀n:Nat,ag Tryz.prog 11 (p2 (.st .term) (.int .i64) fun s m=>⟨some (szT s<=n/\0<=m/\m<=1000000),none,.int .i64 (dG s m),[]⟩):=by
 intro n
 induction n with
 |zero=>exact cP zL fun a m _ _ ho=>absurd (ho _ rfl).1 (by have:=kf a;omega)
 |succ n ih=>exact cP zL fun a m ha _ ho=>zM n a m ha (ho _ rfl) ih
theorem qk:ag Tryz.prog 171 (p1 .str fun s=>.ret (.bool (bY s))):=
 bp (ee Tryz.func171) fun s _ _=>g0 (sc (yG) sn) a0 Tryz.func171 (Ch s)
theorem FU:ag Tryz.prog 125 (p1 .str fun s=>.ret (.bool (fQ s))):=
 bp (ee Tryz.func125) fun s hs _=>g0 (sc qk sn) ⟨[(4,fun S0=>⟨Nat,fun k=>k<=s.length/\(s.all fun c=>iM (bI c))=(s.drop k).all fun c=>iM (bI c),fun k=>[(22,.int .i64 k)],fun _=>[],fun k=>s.length-k⟩)],[],[]⟩ Tryz.func125 (Ip s hs)
theorem tG:ag Tryz.prog 67 (p1 (.st .version) fun v=>.ret (.int .i64 (dy v))):=
 bp (ee Tryz.func67) fun v hv _=>g0 (sc (pq) (sc FU sn)) ⟨[(2,fun S0=>⟨Nat,fun k=>k<=3/\([v.major,v.minor,v.patch].take k).all qp=true,fun k=>[(15,.int .i64 k)],fun _=>[],fun k=>3-k⟩),(11,fun S0=>⟨Nat,fun k=>k<=(splitB 46 v.pre).length/\((splitB 46 v.pre).take k).all fQ=true,fun k=>[(37,.int .i64 k)],fun _=>[],fun k=>(splitB 46 v.pre).length-k⟩)],[],[]⟩ Tryz.func67 (Fs v hv)
theorem CH:ag Tryz.prog 163 (p2 .str (.int .u8) fun s c=>⟨some (c=48),none,.str (cG s),[]⟩):=
 cP (ee Tryz.func163) fun s c hs _ ho=>g0 sn ⟨[(1,fun S0=>⟨Nat,fun k=>k<=s.length/\cG s=cG (s.drop k),fun k=>[(0,.str (s.drop k))],fun _=>[],fun k=>s.length-k⟩)],[],[]⟩ Tryz.func163 (Ft s c hs (ho _ rfl))
theorem xg:ag Tryz.prog 284 (p2 .str .str fun s t=>⟨some (t=[48]),none,.str (cG s),[]⟩):=
 cP (ee Tryz.func284) fun s t _ _ ho=>g0 (sc CH sn) a0 Tryz.func284 (zt s t (ho _ rfl))
theorem II:ag Tryz.prog 247 (p1 (.int .i64) fun a=>.ret (.bool false)):=
 bp (ee Tryz.func247) fun a _ _=>g0 sn a0 Tryz.func247 (Kj a)
theorem tH:ag Tryz.prog 192 (p2 (.int .i64) (.int .i64) fun a b=>.ret (.int .i64 (dU a b))):=
 cP (ee Tryz.func192) fun a b _ _ _=>g0 (sc II sn) a0 Tryz.func192 (Fu a b)
theorem E0:ag Tryz.prog 191 (p1 (.lst (.int .i64)) fun l=>.ret (.int .i64 (orI l))):=
 bp (ee Tryz.func191) fun l hl _=>g0 sn ⟨[(3,fun S0=>⟨Nat,fun k=>k<=l.length/\orI l=orI (l.drop k),fun k=>[(8,.int .i64 k)],fun _=>[],fun k=>l.length-k⟩)],[],[]⟩ Tryz.func191 (LV l hl)
theorem zN:ag Tryz.prog 248 (p2 .str .str fun a b=>.ret (.int .i64 (EX a b))):=
 cP (ee Tryz.func248) fun a b _ _ _=>g0 (sc xg (sc tH (sc (qi) (sc E0 sn)))) a0 Tryz.func248 (Ci a b)
theorem CI:ag Tryz.prog 193 (p2 .str .str fun a b=>.ret (.int .i64 (mA a b))):=
 cP (ee Tryz.func193) fun a b _ _ _=>g0 (sc qk (sc zN (sc (qi) sn))) a0 Tryz.func193 (Fv a b)
theorem IJ:ag Tryz.prog 127 (p2 (.st .version) (.st .version) fun a b=>⟨some (a.pre.length<=4096/\b.pre.length<=4096),none,.int .i64 (lC a b),[]⟩):=
 cP (ee Tryz.func127) fun a b _ _ ho=>g1 nn (fun _=>[]) nn nn (fun d=>Nat.beq d 17||Nat.beq d 22||Nat.beq d 27||Nat.beq d 29||Nat.beq d 43||Nat.beq d 46||Nat.beq d 63) (sc tH (sc E0 (sc CI (sc (pq) sn)))) ⟨[(12,fun S0=>⟨Nat,fun k=>k<=(splitB 46 a.pre).length/\k<=(splitB 46 b.pre).length/\kj (splitB 46 a.pre) (splitB 46 b.pre)=kj ((splitB 46 a.pre).drop k) ((splitB 46 b.pre).drop k),fun k=>[(52,.int .i64 k)],fun _=>[],fun k=>(splitB 46 a.pre).length-k⟩)],[],[]⟩ Tryz.func127 (Kk a b (ho _ rfl))
theorem FV:ag Tryz.prog 126 (p1 (.int .i64) fun n=>.ret (.str (sR n))):=
 bp (ee Tryz.func126) fun n _ _=>g0 sn a0 Tryz.func126 (Iq n)
theorem CJ:ag Tryz.prog 68 (p1 (.lst (.st .bound)) fun l=>.ret (.int .i64 (mB l))):=
 bp (ee Tryz.func68) fun l hl _=>g0 (sc FV (sc tG sn)) ⟨[(4,fun S0=>⟨Nat,fun k=>k<=l.length/\l.all lD=(l.drop k).all lD,fun k=>[(10,.int .i64 k)],fun _=>[],fun k=>l.length-k⟩)],[],[]⟩ Tryz.func68 (Fw l hl)
theorem CK:ag Tryz.prog 69 (p2 (.st .version) (.lst (.st .bound)) fun v l=>⟨some (v.pre.length<=4096/\∀b∈l,b.v.pre.length<=4096),none,.bool (dj v l),[]⟩):=
 cP (ee Tryz.func69) fun v l _ hl ho=>g0 (sc IJ sn) ⟨[(2,fun S0=>⟨Nat,fun k=>k<=l.length/\dj v l=dj v (l.drop k),fun k=>[(10,.int .i64 k)],fun _=>[],fun k=>l.length-k⟩)],[],[]⟩ Tryz.func69 (Fx v l hl (ho _ rfl))
theorem CL:aq Tryz.prog 198:=ee Tryz.func198
theorem ur(n:Nat)(x:Shape)(ho:sz x<=n)(hA:ag Tryz.prog 129 (p1 (.st .shape) fun s=>⟨some (sz s<=n),none,.bool (allS aI s),[]⟩)):an Tryz.prog 198 [.st .shape x] [] (⟨some (sz x<=n),none,.bool (!allS aI x),[]⟩):=
 g0 (sc (hA) sn) a0 Tryz.func198 (Cj n x ho)
theorem zO(n:Nat)(hA:ag Tryz.prog 129 (p1 (.st .shape) fun s=>⟨some (sz s<=n),none,.bool (allS aI s),[]⟩)):ag Tryz.prog 198 (p1 (.st .shape) fun x=>⟨some (sz x<=n),none,.bool (!allS aI x),[]⟩):=
 bp CL fun x _ ho=>ur n x (ho _ rfl) hA
theorem CM:aq Tryz.prog 255:=ee Tryz.func255
theorem uu(n:Nat)(l:List AL.Shape)(hl:Wf (.lst (.st .shape)) l)(ho:∀x∈l,sz x<=n)(hA:ag Tryz.prog 129 (p1 (.st .shape) fun s=>⟨some (sz s<=n),none,.bool (allS aI s),[]⟩)):an Tryz.prog 255 [.lst (.st .shape) l none,.fn 198 []] [] (⟨some (∀x∈l,sz x<=n),none,.int .i64 (aF (allS aI) l 0),[]⟩):=
 g0 (sc (zO n hA) sn) ⟨[(2,fun S0=>⟨Nat,fun k=>k<=l.length/\aF (allS aI) (l.drop k) k=aF (allS aI) l 0,fun k=>[(8,.int .i64 k)],fun _=>[],fun k=>l.length-k⟩)],[],[]⟩ Tryz.func255 (Ck n l hl ho)
theorem zP(n:Nat)(hA:ag Tryz.prog 129 (p1 (.st .shape) fun s=>⟨some (sz s<=n),none,.bool (allS aI s),[]⟩)):ag Tryz.prog 255 (pf (.lst (.st .shape)) 198 fun l=>⟨some (∀x∈l,sz x<=n),none,.int .i64 (aF (allS aI) l 0),[]⟩):=
 kB CM fun l hl ho=>uu n l hl (ho _ rfl) hA
theorem CN:aq Tryz.prog 197:=ee Tryz.func197
theorem uv(n:Nat)(l:List AL.Shape)(hl:Wf (.lst (.st .shape)) l)(ho:∀x∈l,sz x<=n)(hA:ag Tryz.prog 129 (p1 (.st .shape) fun s=>⟨some (sz s<=n),none,.bool (allS aI s),[]⟩)):an Tryz.prog 197 [.lst (.st .shape) l none,.fn 198 []] [] (⟨some (∀x∈l,sz x<=n),none,.bool (!l.all (allS aI)),[]⟩):=
 g0 (sc (zP n hA) sn) a0 Tryz.func197 (Cl n l hl ho)
theorem zQ(n:Nat)(hA:ag Tryz.prog 129 (p1 (.st .shape) fun s=>⟨some (sz s<=n),none,.bool (allS aI s),[]⟩)):ag Tryz.prog 197 (pf (.lst (.st .shape)) 198 fun l=>⟨some (∀x∈l,sz x<=n),none,.bool (!l.all (allS aI)),[]⟩):=
 kB CN fun l hl ho=>uv n l hl (ho _ rfl) hA
theorem zR:aq Tryz.prog 129:=ee Tryz.func129
theorem zS(n:Nat)(s:AL.Shape)(ho:sz s<=n+1)(hE:ag Tryz.prog 197 (pf (.lst (.st .shape)) 198 fun l=>⟨some (∀x∈l,sz x<=n),none,.bool (!l.all (allS aI)),[]⟩)):an Tryz.prog 129 [.st .shape s] [] (⟨some (sz s<=n+1),none,.bool (allS aI s),[]⟩):=
 g0 (sc (hE) sn) a0 Tryz.func129 (Ir n s ho)
theorem vw:∀n:Nat,ag Tryz.prog 129 (p1 (.st .shape) fun s=>⟨some (sz s<=n),none,.bool (allS aI s),[]⟩)
 |0=>bp zR fun s _ ho=>absurd (nw s) (by have:=ho _ rfl;omega)
 |n+1=>bp zR fun s _ ho=>zS n s (ho _ rfl) (zQ n (vw n))
theorem CO:ag Tryz.prog 72 (p1 (.lst .str) fun l=>⟨some (l.length *16<=140737488355328),none,.bool (decide l.Nodup),[]⟩):=
 bp (ee Tryz.func72) fun l _ ho=>g0 (sc kx (sc (ke) (sc (iZ) sn))) a0 Tryz.func72 (Fy l (ho _ rfl))
theorem FW:ag Tryz.prog 70 (p1 (.st .decl) fun d=>⟨some (b8 d=true),none,.bool (gX d),[]⟩):=
 bp (ee Tryz.func70) fun d _ ho=>g0 (sc ij (sc fO (sc pG (sc (vw 400) (sc nE sn))))) ⟨[],[],[(1,fun S0=>⟨[(3,.bool (noS d.shape))],[]⟩),(3,fun S0=>⟨[(5,.bool (noT d.term))],[]⟩)]⟩ Tryz.func70 (Is d (ho _ rfl))
theorem CP:ag Tryz.prog 30 (p1 (.st .modu) fun m=>⟨some (m.decls.all b8=true/\m.decls.length<=1000000),none,.int .i64 (cb m),[]⟩):=
 bp (ee Tryz.func30) fun m hm ho=>g0 (sc fO (sc ij (sc tG (sc CJ (sc CK (sc FW (sc CO sn))))))) ⟨[(5,fun S0=>⟨Nat,fun k=>k<=m.imports.length/\m.imports.all nB=(m.imports.drop k).all nB,fun k=>[(3,.lst .str (m.name::(m.imports.take k).map (·.name)) (some 34)),(38,.int .i64 k)],fun k=>[(34,.tail .str (m.name::(m.imports.take k).map (·.name)).length)],fun k=>m.imports.length-k⟩),(13,fun S0=>⟨Nat,fun k=>k<=m.decls.length/\m.decls.all mC=(m.decls.drop k).all mC,fun k=>[(6,.lst .str (kM++(m.decls.take k).map (·.name)) (some 77)),(81,.int .i64 k)],fun k=>[(77,.tail .str (kM++(m.decls.take k).map (·.name)).length)],fun k=>m.decls.length-k⟩),(20,fun S0=>⟨Nat,fun k=>k<=m.exports.length/\m.exports.all lO=(m.exports.drop k).all lO,fun k=>[(102,.int .i64 k)],fun _=>[],fun k=>m.exports.length-k⟩)],[],[]⟩ Tryz.func30 (Fz m hm (ho _ rfl))
theorem zT:aq Tryz.prog 144:=ee Tryz.func144
theorem zU(n:Nat)(v:Vlu)(l c:Int)(hs:Wf (.st .val) v)(hn:szV v<=n+1)(hc:0<=c/\c<=2000/\1<=l/\l<=c+1)(hA:ag Tryz.prog 144 (oi 234 n)):an Tryz.prog 144 [.st .val v,.int .i64 l,.ptr 900 0] [(900,.box (.int .i64 c))] (BP 234 v l c (szV v<=n+1)):=
 g0 (sc (hA) sn) ⟨[(6,fun S0=>⟨Nat×Int,fun x=>x.1<=v.parts.length/\c+1+(szVL (v.parts.take x.1):Int)<=2000/\deepVL (v.parts.drop x.1) (l+1) x.2=deepV v l,fun x=>[(7,.int .i64 x.2),(25,.int .i64 x.1)],fun x=>[(900,.box (.int .i64 (c+1+(szVL (v.parts.take x.1):Int))))],fun x=>v.parts.length-x.1⟩)],[],[]⟩ Tryz.func144 (It n v l c hs hn hc)
theorem mU:∀n:Nat,ag Tryz.prog 144 (oi 234 n)
 |0=>qj zT fun v l c hs hn hc=>absurd hn (by have:=qL v;omega)
 |n+1=>qj zT fun v l c hs hn hc=>zU n v l c hs hn hc (mU n)
theorem xh(v:Vlu)(hs:Wf (.st .val) v) :an Tryz.prog 79 [.st .val v] [] (.ret (.tup [.int .i64 (if szV v<=2000 then(szV v:Int)else 2001),.int .i64 (if szV v<=2000 then deepV v 1 else 0),.bool (decide (szV v<=2000))])):=
 fwpR_sound (C:=⟨tbl,_,fun _=>false,fun _=>[],fun _=>false,fun _=>false,fun _=>false⟩) (ann:=⟨[],[],[]⟩) (annC:=⟨[],[],[]⟩) mixed vb (iA (mU (szV v)) (jn)) Tryz.func79 Tryz.func143 (enters_of Tryz.func143 (by kernel_rfl) rfl) (@Eq.mpr _ _ (by kernel_rfl) (FA v hs))
theorem CQ:ag Tryz.prog 79 (p1 (.st .val) fun v=>.ret (.tup [.int .i64 (if szV v<=2000 then(szV v:Int)else 2001),.int .i64 (if szV v<=2000 then deepV v 1 else 0),.bool (decide (szV v<=2000))])):=
 bp (ee Tryz.func79) fun v hs _=>xh v hs
theorem zW:ag Tryz.prog 295 (pcl .str 66 fun x=>⟨none,none,.bool (!ay x),[]⟩):=
 pk (ee Tryz.func295) fun x _ ho=>g0 (sc fO sn) a0 Tryz.func295 (Cm x)
theorem zX:ag Tryz.prog 277 (pfc (.lst .str) 295 66 fun l=>⟨none,none,.int .i64 (aF ay l 0),[]⟩):=
 gS (ee Tryz.func277) fun l hl ho=>g0 (sc zW sn) ⟨[(2,fun S0=>⟨Nat,fun k=>k<=l.length/\aF ay (l.drop k) k=aF ay l 0,fun k=>[(8,.int .i64 k)],fun _=>[],fun k=>l.length-k⟩)],[],[]⟩ Tryz.func277 (Cn l hl)
theorem zY:ag Tryz.prog 241 (pfc (.lst .str) 295 66 fun l=>⟨none,none,.bool (!l.all ay),[]⟩):=
 gS (ee Tryz.func241) fun l _ ho=>g0 (sc zX sn) a0 Tryz.func241 (Co l)
theorem FX:ag Tryz.prog 259 (pf (.lst .str) 66 fun l=>⟨none,none,.bool (l.all ay),[]⟩):=
 kB (ee Tryz.func259) fun l _ ho=>g0 (sc zY sn) a0 Tryz.func259 (Iu l)
theorem CR:ag Tryz.prog 207 (p1 (.lst .str) fun l=>⟨some (l.length *16<=140737488355328),none,.bool (j9 l),[]⟩):=
 bp (ee Tryz.func207) fun l _ ho=>g0 (sc kx (sc (ke) (sc FX (sc (iZ) sn)))) a0 Tryz.func207 (FC l (ho _ rfl))
theorem FY:ag Tryz.prog 145 (p1 (.st .val) fun v=>⟨some (v.names.length *16<=140737488355328),none,.bool (bf v),[]⟩):=
 bp (ee Tryz.func145) fun v hs ho=>g0 (sc CR (sc fO (sc ij sn))) a0 Tryz.func145 (Iv v hs (ho _ rfl))
theorem CS:aq Tryz.prog 209:=ee Tryz.func209
theorem uw(n:Nat)(x:Vlu) (ho:szV x<=n/\cA x=true)(hA:ag Tryz.prog 80 (p1 (.st .val) fun v=>⟨some (szV v<=n/\cA v=true),none,.bool (allV bf v),[]⟩)):an Tryz.prog 209 [.st .val x,.ptr 900 0] [(900,.box (.fn 80 []))] (⟨some (szV x<=n/\cA x=true),none,.bool (!(allV bf) x),[]⟩):=
 g0 (sc (hA) sn) a0 Tryz.func209 (Cp n x ho)
theorem zZ(n:Nat)(hA:ag Tryz.prog 80 (p1 (.st .val) fun v=>⟨some (szV v<=n/\cA v=true),none,.bool (allV bf v),[]⟩)):ag Tryz.prog 209 (pcl (.st .val) 80 fun x=>⟨some (szV x<=n/\cA x=true),none,.bool (!(allV bf) x),[]⟩):=
 pk CS fun x _ ho=>uw n x (ho _ rfl) hA
theorem CT:aq Tryz.prog 260:=ee Tryz.func260
theorem uz(n:Nat)(l:List Vlu) (hl:Wf (.lst (.st .val)) l)(ho:∀x∈l,szV x<=n/\cA x=true)(hA:ag Tryz.prog 80 (p1 (.st .val) fun v=>⟨some (szV v<=n/\cA v=true),none,.bool (allV bf v),[]⟩)):an Tryz.prog 260 [.lst (.st .val) l none,.fn 209 [.ptr 900 0]] [(900,.box (.fn 80 []))] (⟨some (∀x∈l,szV x<=n/\cA x=true),none,.int .i64 (aF (allV bf) l 0),[]⟩):=
 g0 (sc ((zZ n hA)) sn) ⟨[(2,fun S0=>⟨Nat,fun k=>k<=l.length/\aF (allV bf) (l.drop k) k=aF (allV bf) l 0,fun k=>[(8,.int .i64 k)],fun _=>[],fun k=>l.length-k⟩)],[],[]⟩ Tryz.func260 (Cq n l hl ho)
theorem Aa(n:Nat)(hA:ag Tryz.prog 80 (p1 (.st .val) fun v=>⟨some (szV v<=n/\cA v=true),none,.bool (allV bf v),[]⟩)):ag Tryz.prog 260 (pfc (.lst (.st .val)) 209 80 fun l=>⟨some (∀x∈l,szV x<=n/\cA x=true),none,.int .i64 (aF (allV bf) l 0),[]⟩):=
 gS CT fun l hl ho=>uz n l hl (ho _ rfl) hA
theorem CU:aq Tryz.prog 208:=ee Tryz.func208
theorem uA(n:Nat)(l:List Vlu) (ho:∀x∈l,szV x<=n/\cA x=true)(hA:ag Tryz.prog 80 (p1 (.st .val) fun v=>⟨some (szV v<=n/\cA v=true),none,.bool (allV bf v),[]⟩)):an Tryz.prog 208 [.lst (.st .val) l none,.fn 209 [.ptr 900 0]] [(900,.box (.fn 80 []))] (⟨some (∀x∈l,szV x<=n/\cA x=true),none,.bool (!l.all (allV bf)),[]⟩):=
 g0 (sc ((Aa n hA)) sn) a0 Tryz.func208 (Cr n l ho)
theorem Ab(n:Nat)(hA:ag Tryz.prog 80 (p1 (.st .val) fun v=>⟨some (szV v<=n/\cA v=true),none,.bool (allV bf v),[]⟩)):ag Tryz.prog 208 (pfc (.lst (.st .val)) 209 80 fun l=>⟨some (∀x∈l,szV x<=n/\cA x=true),none,.bool (!l.all (allV bf)),[]⟩):=
 gS CU fun l _ ho=>uA n l (ho _ rfl) hA
theorem IK:aq Tryz.prog 146:=ee Tryz.func146
theorem Ac(n:Nat)(l:List Vlu) (ho:∀x∈l,szV x<=n/\cA x=true)(hA:ag Tryz.prog 80 (p1 (.st .val) fun v=>⟨some (szV v<=n/\cA v=true),none,.bool (allV bf v),[]⟩)):an Tryz.prog 146 [.lst (.st .val) l none,.fn 80 []] [] (⟨some (∀x∈l,szV x<=n/\cA x=true),none,.bool (l.all (allV bf)),[]⟩):=
 g0 (sc ((Ab n hA)) sn) a0 Tryz.func146 (Iw n l ho)
theorem FZ(n:Nat)(hA:ag Tryz.prog 80 (p1 (.st .val) fun v=>⟨some (szV v<=n/\cA v=true),none,.bool (allV bf v),[]⟩)):ag Tryz.prog 146 (pf (.lst (.st .val)) 80 fun l=>⟨some (∀x∈l,szV x<=n/\cA x=true),none,.bool (l.all (allV bf)),[]⟩):=
 kB IK fun l _ ho=>Ac n l (ho _ rfl) hA
theorem tI:aq Tryz.prog 80:=ee Tryz.func80
theorem uB(n:Nat)(v:Vlu)(hs:Wf (.st .val) v)(ho:szV v<=n+1/\cA v=true)(hE:ag Tryz.prog 146 (pf (.lst (.st .val)) 80 fun l=>⟨some (∀x∈l,szV x<=n/\cA x=true),none,.bool (l.all (allV bf)),[]⟩)):an Tryz.prog 80 [.st .val v] [] (⟨some (szV v<=n+1/\cA v=true),none,.bool (allV bf v),[]⟩):=
 g0 (sc FY (sc (hE) sn)) a0 Tryz.func80 (Cs n v hs ho)
theorem kH:∀n:Nat,ag Tryz.prog 80 (p1 (.st .val) fun v=>⟨some (szV v<=n/\cA v=true),none,.bool (allV bf v),[]⟩)
 |0=>bp tI fun v _ ho=>absurd (ho _ rfl).1 (by have:=qL v;omega)
 |n+1=>bp tI fun v hs ho=>uB n v hs (ho _ rfl) (FZ n (kH n))
theorem CV:ag Tryz.prog 40 (p1 (.st .val) fun v=>⟨some (cA v=true),none,.int .i64 (oq v),[]⟩):=
 bp (ee Tryz.func40) fun v hs ho=>g0 (sc CQ (sc (kH 2000) sn)) a0 Tryz.func40 (FD v hs (ho _ rfl))
theorem lP:ag Tryz.prog 32 (p4 (.pt .scope) .str .str (.st .thing) fun s o n w=>.ret (.pt .scope (ez s o n w))):=
 Mk (ee Tryz.func32) fun s o n w hs ho hn _=>g1 nn (fun _=>[]) nn (fun d=>Nat.beq d 14) nn sn a0 Tryz.func32 (Kl s o n w hs ho hn)
theorem IL:ag Tryz.prog 62 (p3 (.pt .scope) .str .str fun s o n=>.ret (.pt .scope (findF s o n))):=
 GR (ee Tryz.func62) fun s o n hs ho hn _=>g0 sn ⟨[(1,fun S0=>⟨Option Scp,fun x=>findF x o n=findF s o n,fun x=>[(0,.pt .scope x)],fun _=>[],fun x=>BM x⟩)],[],[]⟩ Tryz.func62 (Km s o n hs ho hn)
theorem vz:ag Tryz.prog 61 (p1 .bool fun b=>.ret (.st .thing (px b))):=
 bp (ee Tryz.func61) fun b _ _=>g0 sn a0 Tryz.func61 (Ix b)
theorem iI:ag Tryz.prog 31 (p2 (.int .i64) (.int .i64) fun e a=>⟨none,some (true,.iface 110 (.agg [.int .i64 e,.int .i64 a]),[]),.tup [],[]⟩):=
 cP (ee Tryz.func31) fun e a _ _ _=>g0 sn a0 Tryz.func31 (Kn e a)
theorem IM:ag Tryz.prog 188 (p3 (.int .i64) (.lst (.st .thing)) (.int .i64) fun k l a=>⟨none,some (!eF k l,.iface 110 (.agg [.int .i64 291,.int .i64 a]),[]),.tup [],[]⟩):=
 GR (ee Tryz.func188) fun k l a _ hl _ _=>g0 (sc iI sn) ⟨[(1,fun S0=>⟨Nat,fun i=>i<=l.length/\eF k (l.take i)=true,fun i=>[(10,.int .i64 i)],fun _=>[],fun i=>l.length-i⟩)],[],[]⟩ Tryz.func188 (Ko k l a hl)
theorem G0:ag Tryz.prog 122 (p3 .str (.lst (.st .thing)) (.int .i64) fun nm l a=>bsA 110 ((gj nm l a).isSome=true) (dz (gj nm l a))):=
 GR (ee Tryz.func122) fun nm l a hnm hl ha ho=>g1 nn (fun _=>[]) nn (fun d=>Nat.beq d 32||Nat.beq d 98||Nat.beq d 104||Nat.beq d 110) nn (sc iI (sc IM (sc vz (sc (ue) sn)))) a0 Tryz.func122 (Iy nm l a hnm hl ha (ho _ rfl))
theorem Ky:aq Tryz.prog 64:=ee Tryz.func64
theorem CW(n:Nat)(l:List Trm)(p:Plc)(st mo:Int)(hl:Wf (.lst (.st .term)) l)(hp:Wf (.st .plc) p)(ho:(bn (fun x=>ao mo n x p) l st).isSome=true)(hE:ag Tryz.prog 27 (pE (.pt .term) fun t p st mo=>kn 110 mo (t.isSome=true/\(ao mo n (t.getD default) p st).isSome=true) (dz (ao mo n (t.getD default) p st)))):an Tryz.prog 64 [.ptr 900 0,.lst (.st .term) l none,.st .plc p] (F2 st mo) (evLA 110 mo ((bn (fun x=>ao mo n x p) l st).isSome=true) (F3 (bn (fun x=>ao mo n x p) l st))):=
 g0 (sc (hE) sn) ⟨[(3,fun S0=>⟨Nat×List Thg×Int,fun x=>x.1<=l.length/\x.2.1.length=x.1/\gT (fun y=>ao mo n y p) (l.drop x.1) x.2.1 x.2.2=bn (fun x=>ao mo n x p) l st,fun x=>[(14,.int .i64 x.1),(7,.lst (.st .thing) x.2.1 (some 11))],fun x=>[(11,.tail (.st .thing) x.2.1.length),(900,.box (.agg [.int .i64 x.2.2,.int .i64 mo]))],fun x=>l.length-x.1⟩)],[],[]⟩ Tryz.func64 (Kp n l p st mo hl hp ho)
theorem IN(n:Nat)(hE:ag Tryz.prog 27 (pE (.pt .term) fun t p st mo=>kn 110 mo (t.isSome=true/\(ao mo n (t.getD default) p st).isSome=true) (dz (ao mo n (t.getD default) p st)))):ag Tryz.prog 64 (pE (.lst (.st .term)) fun l p st mo=>evLA 110 mo ((bn (fun x=>ao mo n x p) l st).isSome=true) (F3 (bn (fun x=>ao mo n x p) l st))):=
 DE Ky fun l p st mo hl hp ho=>CW n l p st mo hl hp (ho _ rfl) hE
theorem IP:aq Tryz.prog 63:=ee Tryz.func63
theorem Ad(n:Nat)(t:Trm)(l:List Thg)(st mo:Int)(ht:Wf (.st .term) t)(hl:Wf (.lst (.st .thing)) l)(ho:(fN (ao mo n) mo t.pos l st).isSome=true)(hE:ag Tryz.prog 27 (pE (.pt .term) fun t p st mo=>kn 110 mo (t.isSome=true/\(ao mo n (t.getD default) p st).isSome=true) (dz (ao mo n (t.getD default) p st)))):an Tryz.prog 63 [.ptr 900 0,.pt .term (some t),.lst (.st .thing) l none] (F2 st mo) (kn 110 mo ((fN (ao mo n) mo t.pos l st).isSome=true) (dz (fN (ao mo n) mo t.pos l st))):=
 g0 (sc (hE) (sc iI (sc G0 (sc (lP) sn)))) ⟨[(11,fun S0=>⟨Nat×Option Scp,fun x=>x.1<=(fcn l).names.length/\da x.2 ((fcn l).names.drop x.1) (l.drop (x.1+1))=da (fcn l).scp (fcn l).names (l.drop 1),fun x=>[(78,.int .i64 x.1)],fun x=>[(8,.box (.agg [.pt .scope x.2,.str (fcn l).self]))],fun x=>(fcn l).names.length-x.1⟩)],[],[]⟩ Tryz.func63 (Iz n t l st mo ht hl ho)
theorem G1(n:Nat)(hE:ag Tryz.prog 27 (pE (.pt .term) fun t p st mo=>kn 110 mo (t.isSome=true/\(ao mo n (t.getD default) p st).isSome=true) (dz (ao mo n (t.getD default) p st)))):ag Tryz.prog 63 (pEc fun t l st mo=>kn 110 mo ((fN (ao mo n) mo t.pos l st).isSome=true) (dz (fN (ao mo n) mo t.pos l st))):=
 Ly IP fun t l st mo ht hl ho=>Ad n t l st mo ht hl (ho _ rfl) hE
theorem CX:aq Tryz.prog 65:=ee Tryz.func65
theorem uC(n:Nat)(t:Trm)(p:Plc)(st mo:Int)(ht:Wf (.st .term) t)(hp:Wf (.st .plc) p)(ho:(gr (ao mo n) t p st).isSome=true)(hE:ag Tryz.prog 27 (pE (.pt .term) fun t p st mo=>kn 110 mo (t.isSome=true/\(ao mo n (t.getD default) p st).isSome=true) (dz (ao mo n (t.getD default) p st)))):an Tryz.prog 65 [.ptr 900 0,.pt .term (some t),.st .plc p] (F2 st mo) (kn 110 mo ((gr (ao mo n) t p st).isSome=true) (dz (gr (ao mo n) t p st))):=
 g0 (sc (hE) (sc iI (sc (tz) (sc (lP) sn)))) a0 Tryz.func65 (Ct n t p st mo ht hp ho)
theorem Ae(n:Nat)(hE:ag Tryz.prog 27 (pE (.pt .term) fun t p st mo=>kn 110 mo (t.isSome=true/\(ao mo n (t.getD default) p st).isSome=true) (dz (ao mo n (t.getD default) p st)))):ag Tryz.prog 65 (pE (.pt .term) fun t p st mo=>kn 110 mo (t.isSome=true/\(gr (ao mo n) (t.getD default) p st).isSome=true) (dz (gr (ao mo n) (t.getD default) p st))):=
 DE CX fun t p st mo ht hp ho=>by obtain⟨h1,h2⟩:=ho _ rfl;obtain⟨x,rfl⟩:=Nw.1 h1;exact uC n x p st mo (Wf.pt ht) hp h2 hE
theorem Af:aq Tryz.prog 27:=ee Tryz.func27
theorem Ag(n:Nat)(t:Trm)(p:Plc)(st mo:Int)(ht:Wf (.st .term) t)(hp:Wf (.st .plc) p)(ho:(ao mo (n+1) t p st).isSome=true)(hE:ag Tryz.prog 27 (pE (.pt .term) fun t p st mo=>kn 110 mo (t.isSome=true/\(ao mo n (t.getD default) p st).isSome=true) (dz (ao mo n (t.getD default) p st)))):an Tryz.prog 27 [.ptr 900 0,.pt .term (some t),.st .plc p] (F2 st mo) (kn 110 mo ((ao mo (n+1) t p st).isSome=true) (dz (ao mo (n+1) t p st))):=
 g1 nn (fun _=>[]) nn (fun d=>Nat.beq d 78) nn (sc (hE) (sc iI (sc vz (sc IL (sc (lP) (sc (IN n hE) (sc (G1 n hE) (sc (Ae n hE) sn)))))))) a0 Tryz.func27 (IA n t p st mo ht hp ho)
theorem pH:∀n:Nat,ag Tryz.prog 27 (pE (.pt .term) fun t p st mo=>kn 110 mo (t.isSome=true/\(ao mo n (t.getD default) p st).isSome=true) (dz (ao mo n (t.getD default) p st)))
 |0=>DE Af fun t p st mo ht hp ho=>absurd (ho _ rfl).2 (by show ¬(none:Option Ev).isSome=true;decide)
 |n+1=>DE Af fun t p st mo ht hp ho=>by obtain⟨h1,h2⟩:=ho _ rfl;obtain⟨x,rfl⟩:=Nw.1 h1;exact Ag n x p st mo (Wf.pt ht) hp h2 (pH n)
theorem tJ:ag Tryz.prog 28 (p0 (.ret (.pt .scope bN))):=
 KW (ee Tryz.func28) (g1 nn (fun _=>[]) nn (fun d=>Nat.beq d 16||Nat.beq d 30) nn (sc (lP) sn) ⟨[(3,fun S0=>⟨Nat,fun k=>k<=7,fun k=>[(8,.int .i64 k),(1,.pt .scope ((two.take k).foldl (kE 2) none))],fun _=>[],fun k=>7-k⟩),(8,fun S0=>⟨Nat,fun k=>k<=3,fun k=>[(22,.int .i64 k),(1,.pt .scope ((ju.take k).foldl (kE 1) (two.foldl (kE 2) none)))],fun _=>[],fun k=>3-k⟩)],[],[]⟩ Tryz.func28 (FE))
theorem E1:aq Tryz.prog 39:=ee Tryz.func39
theorem CY(n:Nat)(x:Thg)(r:Int)(hx:Wf (.st .thing) x)(ho:(dE (n+1) x r).isSome=true)(hA:ag Tryz.prog 39 (mn n)):an Tryz.prog 39 [.st .thing x,.ptr 900 0] [(900,.box (.int .i64 r))] (Hy ((dE (n+1) x r).isSome=true) (BQ (dE (n+1) x r))):=
 g0 (sc (EU) (sc (hA) sn)) ⟨[(8,fun S0=>⟨Nat×List Vlu×Int,fun y=>y.1<=x.parts.length/\y.2.1.length=y.1/\iC (dE n) (x.parts.drop y.1) y.2.1 y.2.2=iC (dE n) x.parts [] (r-1),fun y=>[(45,.int .i64 y.1)],fun y=>[(6,.box (.agg [.int .i64 x.kind,.int .i64 (fnN x),.str x.pkg,.str x.text,.lst .str x.names none,.lst (.st .val) y.2.1 (some 701)])),(701,.tail (.st .val) y.2.1.length),(900,.box (.int .i64 y.2.2))],fun y=>x.parts.length-y.1⟩)],[],[(100007,fun S0=>⟨[],[(6,.box (.agg [.int .i64 x.kind,.int .i64 (fnN x),.str x.pkg,.str x.text,.lst .str x.names none,.nils]))]⟩)]⟩ Tryz.func39 (Kq n x r hx ho)
theorem tK:∀n:Nat,ag Tryz.prog 39 (mn n)
 |0=>sZ E1 fun x r hx ho=>by cases ho
 |n+1=>sZ E1 fun x r hx ho=>CY n x r hx ho (tK n)
theorem G2:aq Tryz.prog 18:=ee Tryz.func18
theorem xi(m:Nat)(x:Thg)(a:Int)(hx:Wf (.st .thing) x)(ho:(ca m x a).isSome=true)(hA:ag Tryz.prog 39 (mn m)):an Tryz.prog 18 [.st .thing x,.int .i64 a] [] (swA 110 ((ca m x a).isSome=true) (uh (ca m x a))):=
 g0 (sc (hA) (sc (CV) (sc iI sn))) a0 Tryz.func18 (FF m x a hx ho)
theorem tL(m:Nat)(hA:ag Tryz.prog 39 (mn m)):ag Tryz.prog 18 (p2 (.st .thing) (.int .i64) fun x a=>swA 110 ((ca m x a).isSome=true) (uh (ca m x a))):=
 cP G2 fun x a hx _ ho=>xi m x a hx (ho _ rfl) hA
theorem Kz:aq Tryz.prog 26:=ee Tryz.func26
theorem CZ(n m:Nat)(t:Trm)(mo:Int)(ht:Wf (.st .term) t)(ho:(gl n m t mo).isSome=true)(hE:ag Tryz.prog 27 (pE (.pt .term) fun t p st mo=>kn 110 mo (t.isSome=true/\(ao mo n (t.getD default) p st).isSome=true) (dz (ao mo n (t.getD default) p st))))(hS:ag Tryz.prog 18 (p2 (.st .thing) (.int .i64) fun x a=>swA 110 ((ca m x a).isSome=true) (uh (ca m x a)))):an Tryz.prog 26 [.ptr 900 0,.cptr (.st .term t),.ptr 901 0] (rnS 0 mo) (LF 110 mo ((gl n m t mo).isSome=true) (ot (gl n m t mo))):=
 g0 (sc (tJ) (sc (hE) (sc (hS) sn))) a0 Tryz.func26 (Kr n m t mo ht ho)
theorem IQ(n m:Nat)(hE:ag Tryz.prog 27 (pE (.pt .term) fun t p st mo=>kn 110 mo (t.isSome=true/\(ao mo n (t.getD default) p st).isSome=true) (dz (ao mo n (t.getD default) p st))))(hS:ag Tryz.prog 18 (p2 (.st .thing) (.int .i64) fun x a=>swA 110 ((ca m x a).isSome=true) (uh (ca m x a)))):ag Tryz.prog 26 (yO 110 n m):=
 Hz Kz fun t mo ht ho=>CZ n m t mo ht ho hE hS
theorem G3:aq Tryz.prog 15:=ee Tryz.func15
theorem xj(n m:Nat)(t:Trm)(mo:Int)(ht:Wf (.st .term) t)(ho:(gl n m t mo).isSome=true)(hA:ag Tryz.prog 26 (yO 110 n m)):an Tryz.prog 15 [.fn 26 [.ptr 900 0,.cptr (.st .term t),.ptr 901 0]] (rnS 0 mo) (LG mo ((gl n m t mo).isSome=true) (ot (gl n m t mo))):=
 fwpR_sound (C:=⟨tbl,_,fun _=>false,fun _=>[],fun _=>false,fun _=>false,fun _=>false⟩) (ann:=⟨[],[],[]⟩) (annC:=⟨[],[],[]⟩) mixed vb (iA (hA) (jn)) Tryz.func15 Tryz.func29 (enters_of Tryz.func29 (by kernel_rfl) rfl) (@Eq.mpr _ _ (by kernel_rfl) (FH n m t mo ht ho))
theorem D0(n m:Nat)(hA:ag Tryz.prog 26 (yO 110 n m)):ag Tryz.prog 15 (JX 26 n m):=
 JY G3 fun t mo ht ho=>xj n m t mo ht ho hA
theorem G4(n m:Nat)(t:Trm)(k:Int)(ht:Wf (.st .term) t)(hk:Wf (.int .i64) k)(hf:bR t=true)(ho:(qt n m t k).isSome=true)(hC:ag Tryz.prog 15 (JX 26 n m)):an Tryz.prog 14 [.st .term t,.int .i64 k] [] (⟨some (bR t=true/\(qt n m t k).isSome=true),none,.tup [.st .val (ot (qt n m t k)).v,.int .i64 (ot (qt n m t k)).st,.st .fault (ot (qt n m t k)).f],[]⟩):=
 g0 (sc (nE) (sc (hC) sn)) ⟨[],[(8,[2])],[]⟩ Tryz.func14 (LW n m t k ht hk hf ho)
theorem tM:aq Tryz.prog 21:=ee Tryz.func21
theorem uD(n:Nat)(a:Vlu)(ha:Wf (.st .val) a)(hz:szV a<=n+1)(hA:ag Tryz.prog 21 (p2 (.st .val) (.st .val) fun a b=>⟨some (a=b/\szV a<=n),none,.bool true,[]⟩)):an Tryz.prog 21 [.st .val a,.st .val a] [] (.ret (.bool true)):=
 g0 (sc (hA) sn) ⟨[(4,fun S0=>⟨Nat,fun k=>k<=a.names.length,fun k=>[(5,.int .i64 k)],fun _=>[],fun k=>a.names.length-k⟩),(9,fun S0=>⟨Nat,fun k=>k<=a.parts.length,fun k=>[(6,.int .i64 k)],fun _=>[],fun k=>a.parts.length-k⟩)],[],[]⟩ Tryz.func21 (Cu n a ha hz)
theorem kJ:∀n:Nat,ag Tryz.prog 21 (p2 (.st .val) (.st .val) fun a b=>⟨some (a=b/\szV a<=n),none,.bool true,[]⟩)
 |0=>cP tM fun a b _ _ ho=>absurd (ho _ rfl).2 (by have:=qL a;omega)
 |n+1=>cP tM fun a b ha _ ho=>by obtain⟨rfl,h⟩:=ho _ rfl;exact uD n a ha h (kJ n)
theorem E2:ag Tryz.prog 35 (C8 fun x m=>⟨none,none,.bool (!inX m x),[]⟩):=
 Fa (ee Tryz.func35) fun x m _=>g0 (sc mT sn) a0 Tryz.func35 (LX x m)
theorem IS:ag Tryz.prog 74 (qO 35 fun s xs m=>⟨some (xs.length<=1000000),none,.int .i64 (aF (inX m) xs 0),[]⟩):=
 tt (ee Tryz.func74) (fun _ _ _=>rfl) fun s xs m hl=>g0 (sc E2 sn) ⟨[(2,fun S0=>⟨Nat,fun k=>k<=xs.length/\aF (inX m) (xs.drop k) k=aF (inX m) xs 0,fun k=>[(8,.int .i64 k)],fun _=>[],fun k=>xs.length-k⟩)],[],[]⟩ Tryz.func74 (Ks s xs m hl)
theorem IT:ag Tryz.prog 34 (qO 35 fun s xs m=>⟨some (xs.length<=1000000),none,.glst (zb m s xs) (dV m xs).length 900,[(900,.grow (.st .exp) (zb m s xs) (dV m xs))]⟩):=
 tt (ee Tryz.func34) (fun _ _ _=>rfl) fun s xs m hl=>g0 (sc E2 (sc IS sn)) ⟨[(5,fun S0=>⟨Nat×Nat×List Exp,fun x=>x.1<x.2.1/\x.2.1<=xs.length/\x.2.2.length=xs.length/\xs.all (inX m)=false/\x.2.2.take x.1=dV m (xs.take x.2.1)/\x.2.2.drop x.2.1=xs.drop x.2.1,fun x=>[(5,.int .i64 x.1),(6,.int .i64 x.2.1)],fun x=>[(900,.grow (.st .exp) s x.2.2)],fun x=>xs.length-x.2.1⟩)],[],[]⟩ Tryz.func34 (Kt s xs m hl)
theorem KA:aq Tryz.prog 17:=ee Tryz.func17
theorem D1(n:Nat)(m:Modu)(ah:Ahd)(st mo:Int)(e:MdE)(hm:Wf (.st .modu) m)(ho:(m.decls.all b8=true/\m.decls.length<=1000000)/\(∀x∈ah,x.2.length<=1000000))(he:iO (ao mo n) m ah st=some e)(hE:ag Tryz.prog 27 (pE (.pt .term) fun t p st mo=>kn 110 mo (t.isSome=true/\(ao mo n (t.getD default) p st).isSome=true) (dz (ao mo n (t.getD default) p st)))):an Tryz.prog 17 [.ptr 900 0,.pt .modu (some m),.map 901] (mdS st mo ah) (mdA 110 mo (((m.decls.all b8=true/\m.decls.length<=1000000)/\(∀x∈ah,x.2.length<=1000000))/\(iO (ao mo n) m ah st).isSome=true) e):=
 g1 nn (fun _=>[]) nn (fun d=>Nat.beq d 124) nn (sc (CP) (sc iI (sc (tJ) (sc (lP) (sc (hE) (sc mT (sc IT (sc (Fb) sn)))))))) ⟨[(6,fun S0=>⟨Nat×Option Scp,fun x=>x.1<=m.imports.length/\fv ah (m.imports.drop x.1) x.2=fv ah m.imports bN,fun x=>[(36,.int .i64 x.1),(8,.pt .scope x.2)],fun _=>[],fun x=>m.imports.length-x.1⟩),(12,fun S0=>ry S0 36 fun i=>⟨Nat×Option Scp,fun x=>∃l,ct (K:=Str) ah (m.imports.getD i.toNat (dfl (.st .imp))).name=some l/\x.1<=l.length/\fv ah (m.imports.drop (i.toNat+1)) ((l.drop x.1).foldl (DS (m.imports.getD i.toNat (dfl (.st .imp))).name) x.2)=fv ah m.imports bN,fun x=>[(54,.int .i64 x.1),(8,.pt .scope x.2)],fun _=>[],fun x=>((ct (K:=Str) ah (m.imports.getD i.toNat (dfl (.st .imp))).name).getD []).length-x.1⟩),(20,fun S0=>⟨(Nat×Option Scp)×(List Exp×Int),fun x=>x.1.1<=m.decls.length/\x.2.1.length<=x.1.1/\cK (ao mo n) m.name (m.decls.drop x.1.1) x.1.2 x.2.1 x.2.2=cK (ao mo n) m.name m.decls (fv ah m.imports bN).s [] st,fun x=>[(73,.int .i64 x.1.1),(8,.pt .scope x.1.2),(16,.lst .str ((m.decls.take x.1.1).map (·.name)) (some 702)),(15,.glst x.2.1.length x.2.1.length 701)],fun x=>[(702,.tail .str (m.decls.take x.1.1).length),(701,.grow (.st .exp) x.2.1.length x.2.1),(900,.box (.agg [.int .i64 x.2.2,.int .i64 mo]))],fun x=>m.decls.length-x.1.1⟩),(30,fun S0=>⟨Nat,fun k=>k<=m.exports.length/\((m.exports.take k).all fun s=>decide (s∈m.decls.map (·.name)))=true,fun k=>[(131,.int .i64 k)],fun _=>[],fun k=>m.exports.length-k⟩)],[(400037,[701,15])],[]⟩ Tryz.func17 (Ku n m ah st mo e hm ho he)
theorem IU(n:Nat)(hE:ag Tryz.prog 27 (pE (.pt .term) fun t p st mo=>kn 110 mo (t.isSome=true/\(ao mo n (t.getD default) p st).isSome=true) (dz (ao mo n (t.getD default) p st)))):ag Tryz.prog 17 (pMd fun m ah st mo=>mdA 110 mo (((m.decls.all b8=true/\m.decls.length<=1000000)/\(∀x∈ah,x.2.length<=1000000))/\(iO (ao mo n) m ah st).isSome=true) (ow (iO (ao mo n) m ah st))):=
 LO KA fun m ah st mo hm ho=>D1 n m ah st mo _ hm (ho _ rfl).1 (HX (ho _ rfl).2) hE
theorem IV:aq Tryz.prog 16:=ee Tryz.func16
theorem Ah(n m:Nat)(l:List Modu)(mo:Int)(p:Prg)(hl:Wf (.lst (.st .modu)) l)(ho:(∀x∈l,x.decls.all b8=true/\x.decls.length<=1000000))(hp:dw n m l mo=some p)(hE:ag Tryz.prog 27 (pE (.pt .term) fun t p st mo=>kn 110 mo (t.isSome=true/\(ao mo n (t.getD default) p st).isSome=true) (dz (ao mo n (t.getD default) p st))))(hS:ag Tryz.prog 18 (p2 (.st .thing) (.int .i64) fun x a=>swA 110 ((ca m x a).isSome=true) (uh (ca m x a)))):an Tryz.prog 16 [.cptr (.lst (.st .modu) l none),.ptr 900 0,.ptr 901 0] (prS 0 mo) (K7 110 mo ((∀x∈l,x.decls.all b8=true/\x.decls.length<=1000000)/\(dw n m l mo).isSome=true) p):=
 g0 (sc (IU n hE) (sc (hS) sn)) ⟨[(3,fun S0=>⟨(Nat×Ahd)×(List Exp×Int),fun x=>x.1.1<=l.length/\(∀y∈x.1.2,y.2.length<=1000000)/\x.2.1.length<=1000000/\dm (ao mo n) (l.drop x.1.1) x.1.2 x.2.1 x.2.2=dm (ao mo n) l [] [] 0,fun x=>[(11,.int .i64 x.1.1),(4,.lst (.st .exp) x.2.1 none)],fun x=>[(8,.map .str (.lst (.st .exp)) x.1.2),(902,.box (.agg [.int .i64 x.2.2,.int .i64 mo]))],fun x=>l.length-x.1.1⟩),(9,fun S0=>⟨Nat×List Cel,fun x=>x.1<=(ow (dm (ao mo n) l [] [] 0)).l.length/\x.2.length<=x.1/\dW m ((ow (dm (ao mo n) l [] [] 0)).l.drop x.1) x.2=dW m (ow (dm (ao mo n) l [] [] 0)).l [],fun x=>[(30,.int .i64 x.1)],fun x=>[(901,.box (.lst (.st .cell) x.2 (some 701))),(701,.tail (.st .cell) x.2.length)],fun x=>(ow (dm (ao mo n) l [] [] 0)).l.length-x.1⟩)],[],[]⟩ Tryz.func16 (IB n m l mo p hl ho hp)
def ML(n m:Nat):=zi fun l mo=>K7 110 mo ((∀x∈l,x.decls.all b8=true/\x.decls.length<=1000000)/\(dw n m l mo).isSome=true) (kN (dw n m l mo))
theorem G5(n m:Nat)(hE:ag Tryz.prog 27 (pE (.pt .term) fun t p st mo=>kn 110 mo (t.isSome=true/\(ao mo n (t.getD default) p st).isSome=true) (dz (ao mo n (t.getD default) p st))))(hS:ag Tryz.prog 18 (p2 (.st .thing) (.int .i64) fun x a=>swA 110 ((ca m x a).isSome=true) (uh (ca m x a)))):ag Tryz.prog 16 (ML n m):=
 HY IV fun l mo hl ho=>Ah n m l mo _ hl (ho _ rfl).1 (wT (ho _ rfl).2) hE hS
theorem KB:aq Tryz.prog 15:=ee Tryz.func15
theorem D2(n m:Nat)(l:List Modu)(mo:Int)(p:Prg)(hl:Wf (.lst (.st .modu)) l)(ho:(∀x∈l,x.decls.all b8=true/\x.decls.length<=1000000))(hp:dw n m l mo=some p)(hA:ag Tryz.prog 16 (ML n m)):an Tryz.prog 15 [.fn 16 [.cptr (.lst (.st .modu) l none),.ptr 900 0,.ptr 901 0]] (prS 0 mo) (K8 mo ((∀x∈l,x.decls.all b8=true/\x.decls.length<=1000000)/\(dw n m l mo).isSome=true) p):=
 fwpR_sound (C:=⟨tbl,_,fun _=>false,fun _=>[],fun _=>false,fun _=>false,fun _=>false⟩) (ann:=⟨[],[],[]⟩) (annC:=⟨[],[],[]⟩) mixed vb (iA (hA) (jn)) Tryz.func15 Tryz.func29 (enters_of Tryz.func29 (by kernel_rfl) rfl) (@Eq.mpr _ _ (by kernel_rfl) (Kv n m l mo p hl ho hp))
def MM(n m:Nat):=zj 16 fun l mo=>K8 mo ((∀x∈l,x.decls.all b8=true/\x.decls.length<=1000000)/\(dw n m l mo).isSome=true) (kN (dw n m l mo))
theorem IW(n m:Nat)(hA:ag Tryz.prog 16 (ML n m)):ag Tryz.prog 15 (MM n m):=
 HZ KB fun l mo hl ho=>D2 n m l mo _ hl (ho _ rfl).1 (wT (ho _ rfl).2) hA
theorem KC:aq Tryz.prog 8:=ee Tryz.func8
theorem D3(n m:Nat)(l:List Modu)(k:Int)(p:Prg)(hl:Wf (.lst (.st .modu)) l)(hk:Wf (.int .i64) k)(ho:(∀x∈l,x.decls.all b8=true/\x.decls.length<=1000000))(hp:eP n m l k=some p)(hC:ag Tryz.prog 15 (MM n m)):an Tryz.prog 8 [.lst (.st .modu) l none,.int .i64 k] [] (⟨some ((∀x∈l,x.decls.all b8=true/\x.decls.length<=1000000)/\(eP n m l k).isSome=true),none,.tup [.lst (.st .cell) p.l none,.int .i64 p.st,.st .fault p.f],[]⟩):=
 g0 (sc (hC) sn) ⟨[],[(5,[2])],[]⟩ Tryz.func8 (Kw n m l k p hl hk ho hp)
theorem IX(n m:Nat)(hC:ag Tryz.prog 15 (MM n m)):ag Tryz.prog 8 (p2 (.lst (.st .modu)) (.int .i64) fun l k=>⟨some ((∀x∈l,x.decls.all b8=true/\x.decls.length<=1000000)/\(eP n m l k).isSome=true),none,.tup [.lst (.st .cell) (kN (eP n m l k)).l none,.int .i64 (kN (eP n m l k)).st,.st .fault (kN (eP n m l k)).f],[]⟩):=
 cP KC fun l k hl hk ho=>D3 n m l k _ hl hk (ho _ rfl).1 (wT (ho _ rfl).2) hC
theorem uE(l:List Modu)(N:Nat)(hl:Wf (.lst (.st .modu)) l)(ho:∀m∈l,m.imports.length<=1048576)(hN:∀m∈l,∀d∈m.decls,sz d.shape<=N/\szT d.term<=N) :an Tryz.prog 6 [.lst (.st .modu) l none] [] (⟨some (∀m∈l,m.imports.length<=1048576),none,.bool (lgM l 0),[]⟩):=
 g0 (sc (IG N) (sc (FT N) sn)) ⟨[(3,fun S0=>⟨Nat×Int,fun x=>x.1<=l.length/\0<=x.2/\x.2<=600/\lgM (l.drop x.1) x.2=lgM l 0,fun x=>[(3,.int .i64 x.2),(4,.int .i64 x.1)],fun _=>[],fun x=>l.length-x.1⟩),(9,fun S0=>ry S0 4 fun i=>⟨Nat×Int,fun x=>x.1<=(l.getD i.toNat (dfl (.st .modu))).decls.length/\0<=x.2/\x.2<=600/\lgA (lgD ((l.getD i.toNat (dfl (.st .modu))).decls.drop x.1) x.2) (l.getD i.toNat (dfl (.st .modu))) (lgM (l.drop (i.toNat+1)))=lgM l 0,fun x=>[(3,.int .i64 x.2),(5,.int .i64 x.1)],fun _=>[],fun x=>(l.getD i.toNat (dfl (.st .modu))).decls.length-x.1⟩),(15,fun S0=>ry S0 4 fun i=>ry S0 3 fun n=>⟨Nat,fun k=>k<=(l.getD i.toNat (dfl (.st .modu))).imports.length/\(((l.getD i.toNat (dfl (.st .modu))).imports.drop k).all lgI&&lgM (l.drop (i.toNat+1)) n)=lgM l 0,fun k=>[(6,.int .i64 k)],fun _=>[],fun k=>(l.getD i.toNat (dfl (.st .modu))).imports.length-k⟩),(21,fun S0=>ry S0 4 fun i=>ry S0 3 fun n=>ry S0 6 fun k=>⟨Nat,fun j=>j<=((l.getD i.toNat (dfl (.st .modu))).imports.getD k.toNat (dfl (.st .imp))).range.length/\(lgR (((l.getD i.toNat (dfl (.st .modu))).imports.getD k.toNat (dfl (.st .imp))).range.drop j)&&(((l.getD i.toNat (dfl (.st .modu))).imports.drop (k.toNat+1)).all lgI&&lgM (l.drop (i.toNat+1)) n))=lgM l 0,fun j=>[(8,.int .i64 j)],fun _=>[],fun j=>((l.getD i.toNat (dfl (.st .modu))).imports.getD k.toNat (dfl (.st .imp))).range.length-j⟩)],[],[]⟩ Tryz.func6 (Cv l N hl ho hN)
theorem Ai:ag Tryz.prog 6 (p1 (.lst (.st .modu)) fun l=>⟨some (∀m∈l,m.imports.length<=1048576),none,.bool (lgM l 0),[]⟩):=
 bp (ee Tryz.func6) fun l hl ho=>uE l (szM l) hl (ho _ rfl) (I6 l)
theorem xk(l:List Cel)(hl:Wf (.lst (.st .cell)) l)(hz:kG l) :an Tryz.prog 10 [.lst (.st .cell) l none,.lst (.st .cell) l none] [] (⟨some (l=l/\kG l),none,.bool true,[]⟩):=
 g0 (sc (kJ 2000) sn) ⟨[(4,fun S0=>⟨Nat,fun k=>k<=l.length,fun k=>[(5,.int .i64 k)],fun _=>[],fun k=>l.length-k⟩)],[],[]⟩ Tryz.func10 (FI l hl hz)
theorem D4:ag Tryz.prog 10 (p2 (.lst (.st .cell)) (.lst (.st .cell)) fun a b=>⟨some (a=b/\kG a),none,.bool true,[]⟩):=
 cP (ee Tryz.func10) fun a b ha _ ho=>by obtain⟨rfl,h⟩:=ho _ rfl;exact xk a ha h
theorem oC(l:List Modu)(k d:Int)(hl:Wf (.lst (.st .modu)) l)(hk:Wf (.int .i64) k)(hd:Wf (.int .i64) d)(hs:∀m∈l,m.decls.all b8=true)(hi:∀m∈l,m.imports.length<=1048576)(hR:ag Tryz.prog 8 (p2 (.lst (.st .modu)) (.int .i64) fun l k=>⟨some ((∀x∈l,x.decls.all b8=true/\x.decls.length<=1000000)/\(eP dX 2001 l k).isSome=true),none,.tup [.lst (.st .cell) (kN (eP dX 2001 l k)).l none,.int .i64 (kN (eP dX 2001 l k)).st,.st .fault (kN (eP dX 2001 l k)).f],[]⟩))(hW:ag Tryz.prog 7 (p0 (.ret (.bool true)))):an Tryz.prog 4 [.lst (.st .modu) l none,.int .i64 k,.int .i64 d] [] (.ret (.bool true)):=
 g0 (sc (hW) (sc Ai (sc (hR) (sc D4 sn)))) a0 Tryz.func4 (tx l k d hl hk hd hs hi)
end Go.AL.Seat
end
noncomputable section
namespace Go.AL.Seat
open Go Go.AL Go.Proofs Go.Shelf Go.Pd
variable [Tabs]
def LY(t:Str):Bool:=!t.isEmpty&&decide (t.length<=15)&&t.all fun c=>decide (48<=c.toNat)&&decide (c.toNat<=57)
theorem KD{t:Str}(h:LY t=true):sD t:=by unfold LY at h;simp only[MO,N9,MS,N2]at h;exact⟨fun e=>(by rw[e]at h;exact absurd h.1.1 (by decide)),h.1.2,h.2⟩
def mV:List (Nat×Pat):=
 [(162,p1 .str fun s=>.ret (.tup [.int .i32 ((kg s).1:Int),.int .i64 ((kg s).2:Int)])),
  (173,p2 .str (.int .u8) fun a c=>.ret (.int .i64 (Hd a c))),
  (105,q2 .str .str (fun _ b=>decide (b=qo)) fun a _=>.str (mN a)),
  (170,q2 .str .str (fun a b=>decide (b=[45])&&decide (a.length<4294967281)) fun a _=>.tup [.str (j8 a),.str (nz a),.bool (pn a)]),
  (124,q2 .str .str (fun a b=>decide (b=[46])&&decide (a.length<4294967281)) fun a _=>.lst .str (splitB 46 a) none),
  (175,q2 .str .str (fun _ b=>decide (b.length=1)) fun a b=>.bool (decide (b.getD 0 0∈a))),
  (172,q1 .str LY fun t=>.tup [.int .i64 (mL t),.nilif]),
  (66,p1 .str fun s=>.ret (.bool (ay s))),(71,p1 .str fun s=>.ret (.bool (dh s))),
  (128,p1 (.st .shape) fun s=>.ret (.int .i64 (di s))),
  (25,q1 (.st .term) bR fun t=>.int .i64 (cY t))]
theorem jG[SeatLaid][SeatPow]:bz Tryz.prog (ep mV):=
 sc sO (sc ub (sc (yn yG fun _ _ h=>Xo h)
  (sc (yn JO fun _ _ h=>by rw[MO]at h;exact⟨Xo h.1,Xo h.2⟩)
  (sc (yn pq fun _ _ h=>by rw[MO]at h;exact⟨Xo h.1,Xo h.2⟩)
  (sc (yn wH fun _ _ h=>Xo h) (sc (KS Hc fun _ h=>KD h)
  (sc fO (sc ij (sc pG (sc (KS nE fun _ h=>h) sn))))))))))
end Go.AL.Seat
end
noncomputable section
namespace Go.AL.Seat
open Go Go.AL Go.Proofs
variable [Tabs]
def aZ:List (Nat×TR):=[(3,r2),(9,r9),(51,⟨.strct false [(0,3),(1,9),(2,9),(3,3),(4,36),(5,36),(6,46),(7,49),(8,3)],9,152,[.int .i64 0,.str [],.str [],.int .i64 0,.nils,.nils,.nils,.nils,.int .i64 0],some (.st .term)⟩),(154,⟨.strct false [(0,152)],4,48,[.nils,.int .i64 0,.int .i64 0,.int .i64 0],some (.st .par)⟩),(149,⟨.ptr 154,1,8,[.nilp],none⟩),(5,r5),(148,⟨.strct true [(0,3),(1,9),(2,3)],3,32,[.int .i64 0,.str [],.int .i64 0],some (.st .token)⟩),(28,⟨.strct true [(0,26),(1,3)],2,16,[.int .i64 0,.int .i64 0],some (.st .fault)⟩),(48,⟨.strct false [(0,3),(1,9),(2,9),(3,36),(4,46)],5,88,[.int .i64 0,.str [],.str [],.nils,.nils],some (.st .shape)⟩),(142,JJ),(36,⟨.slice 9,1,24,[.nils],some (.lst .str)⟩),(140,JI),(46,⟨.slice 48,1,24,[.nils],some (.lst (.st .shape))⟩),(49,⟨.slice 51,1,24,[.nils],some (.lst (.st .term))⟩),(152,⟨.strct false [(0,96),(1,3),(2,28)],4,48,[.nils,.int .i64 0,.int .i64 0,.int .i64 0],some (.st .par)⟩),(26,r2),(96,⟨.slice 148,1,24,[.nils],some (.lst (.st .token))⟩),(40,⟨.strct true [(0,3),(1,3),(2,3),(3,9)],4,40,[.int .i64 0,.int .i64 0,.int .i64 0,.str []],some (.st .version)⟩),(4,⟨.bool,1,1,[.bool false],some .bool⟩),(138,⟨.ptr 142,1,8,[.nilp],none⟩),(1,r1),(204,r1),(193,⟨.slice 3,1,24,[.nils],some (.lst (.int .i64))⟩),(258,⟨.arr 3 3,3,24,[.int .i64 0,.int .i64 0,.int .i64 0],none⟩),(263,⟨.slice 5,1,24,[.nils],some (.lst (.int .u8))⟩),(21,r21),(47,⟨.strct false [(0,3),(1,9),(2,9),(3,36),(4,46)],5,88,[.int .i64 0,.str [],.str [],.nils,.nils],none⟩),(39,⟨.strct true [(0,3),(1,3),(2,3),(3,9)],4,40,[.int .i64 0,.int .i64 0,.int .i64 0,.str []],none⟩),(151,⟨.strct false [(0,96),(1,3),(2,28)],4,48,[.nils,.int .i64 0,.int .i64 0,.int .i64 0],none⟩),(153,⟨.strct false [(0,152)],4,48,[.nils,.int .i64 0,.int .i64 0,.int .i64 0],none⟩),(147,⟨.strct true [(0,3),(1,9),(2,3)],3,32,[.int .i64 0,.str [],.int .i64 0],none⟩),(141,JJ),(139,JI),(27,⟨.strct true [(0,26),(1,3)],2,16,[.int .i64 0,.int .i64 0],none⟩),(50,⟨.strct false [(0,3),(1,9),(2,9),(3,3),(4,36),(5,36),(6,46),(7,49),(8,3)],9,152,[.int .i64 0,.str [],.str [],.int .i64 0,.nils,.nils,.nils,.nils,.int .i64 0],none⟩)]
theorem jH:aP Tryz.prog aZ:=.cons tk (.cons tk (.cons tk (.cons tk (.cons tk (.cons tk (.cons tk (.cons tk (.cons tk (.cons tk (.cons tk (.cons tk (.cons tk (.cons tk (.cons tk (.cons tk (.cons tk (.cons tk (.cons tk (.cons tk (.cons tk (.cons tk (.cons tk (.cons tk (.cons tk (.cons tk (.cons tk (.cons tk (.cons tk (.cons tk (.cons tk (.cons tk (.cons tk (.cons tk (.cons tk (.nil)))))))))))))))))))))))))))))))))))
end Go.AL.Seat
end
noncomputable section
namespace Go.AL.Seat
open Go Go.AL Go.Proofs
set_option maxRecDepth 1000000
variable [Tabs]
def pI(f:Nat):List (Option Nat):=if Nat.beq f 49||Nat.beq f 50 then[some 2]else[]
def pJ(f:Nat):Bool:=false
def iJ:List (Nat×FB):=(13,bQ aZ Tryz.f13 4362109181 [] (fun _=>false) (fun _=>false) (fun _=>false) false)::(22,bQ aZ Tryz.f22 77975715369647181664879229 [] (fun _=>false) (fun _=>false) (fun _=>false) false)::(23,bQ aZ Tryz.f23 9016029707634675 [] (fun _=>false) (fun _=>false) (fun _=>false) false)::(24,bQ aZ Tryz.f24 531 [] (fun _=>false) (fun _=>false) (fun _=>false) false)::(49,bQ aZ Tryz.f49 65555 [] (fun _=>false) (fun _=>false) (fun _=>false) false)::(50,bQ aZ Tryz.f50 4294967347 [] (fun _=>false) (fun _=>false) (fun _=>false) false)::(51,bQ aZ Tryz.f51 5 [] (fun _=>false) (fun _=>false) (fun _=>false) false)::(52,bQ aZ Tryz.f52 8388935 [] (fun _=>false) (fun _=>false) (fun _=>false) false)::(53,bQ aZ Tryz.f53 87112288527988523651034566703108870643455 [] (fun _=>false) (fun _=>false) (fun d=>Nat.beq d 21) false)::(54,bQ aZ Tryz.f54 33816627 [] (fun _=>false) (fun _=>false) (fun _=>false) false)::(55,bQ aZ Tryz.f55 5 [] (fun _=>false) (fun _=>false) (fun _=>false) false)::(56,bQ aZ Tryz.f56 268439557 [] (fun _=>false) (fun _=>false) (fun _=>false) false)::(57,bQ aZ Tryz.f57 81129648086015544455969055506495 [] (fun _=>false) (fun _=>false) (fun _=>false) false)::(58,bQ aZ Tryz.f58 263 [] (fun _=>false) (fun _=>false) (fun _=>false) false)::(96,bQ aZ Tryz.f96 549890048253 [] (fun _=>false) (fun _=>false) (fun _=>false) false)::(97,bQ aZ Tryz.f97 71 [] (fun _=>false) (fun _=>false) (fun _=>false) false)::(98,bQ aZ Tryz.f98 79 [] (fun _=>false) (fun _=>false) (fun _=>false) false)::(99,bQ aZ Tryz.f99 5 [] (fun _=>false) (fun _=>false) (fun _=>false) false)::(100,bQ aZ Tryz.f100 5 [] (fun _=>false) (fun _=>false) (fun _=>false) false)::(101,bQ aZ Tryz.f101 5 [] (fun _=>false) (fun _=>false) (fun _=>false) false)::(102,bQ aZ Tryz.f102 29 [] (fun _=>false) (fun _=>false) (fun _=>false) false)::(103,bQ aZ Tryz.f103 5 [] (fun _=>false) (fun _=>false) (fun _=>false) false)::(104,bQ aZ Tryz.f104 5 [] (fun _=>false) (fun _=>false) (fun _=>false) false)::(106,bQ aZ Tryz.f106 151115799509488183025661 [] (fun _=>false) (fun _=>false) (fun _=>false) false)::(107,bQ aZ Tryz.f107 618970019647202533975261693 [] (fun _=>false) (fun _=>false) (fun _=>false) false)::(108,bQ aZ Tryz.f108 29 [] (fun _=>false) (fun _=>false) (fun _=>false) false)::(109,bQ aZ Tryz.f109 3 [] (fun d=>Nat.beq d 8) (fun _=>false) (fun _=>false) false)::(110,bQ aZ Tryz.f110 7 [] (fun d=>Nat.beq d 15) (fun _=>false) (fun _=>false) false)::(113,bQ aZ Tryz.f113 275 [] (fun _=>false) (fun _=>false) (fun _=>false) false)::(111,bQ aZ Tryz.f111 131 [] (fun _=>false) (fun _=>false) (fun _=>false) false)::(115,bQ aZ Tryz.f115 7 [] (fun _=>false) (fun _=>false) (fun _=>false) false)::(114,bQ aZ Tryz.f114 271375 [] (fun _=>false) (fun _=>false) (fun _=>false) false)::(117,bQ aZ Tryz.f117 32819 [] (fun _=>false) (fun _=>false) (fun _=>false) false)::(118,bQ aZ Tryz.f118 15 [] (fun _=>false) (fun _=>false) (fun _=>false) false)::(119,bQ aZ Tryz.f119 17180524607 [] (fun _=>false) (fun _=>false) (fun _=>false) false)::(171,bQ aZ Tryz.f171 5 [] (fun _=>false) (fun _=>false) (fun _=>false) false)::(67,bQ aZ Tryz.f67 9316337836119 [] (fun _=>false) (fun _=>false) (fun _=>false) false)::(174,bQ aZ Tryz.f174 5 [] (fun _=>false) (fun _=>false) (fun _=>false) false)::(112,bQ aZ Tryz.f112 2228285 [] (fun _=>false) (fun _=>false) (fun _=>false) false)::(177,bQ aZ Tryz.f177 51 [] (fun _=>false) (fun _=>false) (fun _=>false) false)::(116,bQ aZ Tryz.f116 65587 [] (fun _=>false) (fun _=>false) (fun _=>false) false)::(178,bQ aZ Tryz.f178 23945973599159813139139346461134680183357916012085311 [] (fun _=>false) (fun _=>false) (fun _=>false) false)::(179,bQ aZ Tryz.f179 3 [] (fun d=>Nat.beq d 8) (fun _=>false) (fun _=>false) false)::(125,bQ aZ Tryz.f125 18014398524686365 [] (fun _=>false) (fun _=>false) (fun _=>false) false)::(176,bQ aZ Tryz.f176 324677087359430077278579446644799 [] (fun d=>Nat.beq d 129) (fun _=>false) (fun _=>false) false)::(33,bQ aZ Tryz.f33 19 [] (fun _=>false) (fun _=>false) (fun _=>false) false)::(236,bQ aZ Tryz.f236 3 [] (fun d=>Nat.beq d 23) (fun _=>false) (fun _=>false) false)::(237,bQ aZ Tryz.f237 13 [] (fun _=>false) (fun _=>false) (fun _=>false) false)::(232,bQ aZ Tryz.f232 7 [] (fun d=>Nat.beq d 21) (fun _=>false) (fun _=>false) false)::(234,bQ aZ Tryz.f234 149971 [] (fun _=>false) (fun _=>false) (fun _=>false) false)::(235,bQ aZ Tryz.f235 3 [] (fun d=>Nat.beq d 8) (fun _=>false) (fun _=>false) false)::(73,bQ aZ Tryz.f73 66483 [] (fun _=>false) (fun _=>false) (fun _=>false) false)::(233,bQ aZ Tryz.f233 5 [] (fun _=>false) (fun _=>false) (fun _=>false) false)::[]
theorem fq:aU Tryz.prog iJ:=aU.cons Tryz.func13 (by kernel_rfl) (aU.cons Tryz.func22 (by kernel_rfl) (aU.cons Tryz.func23 (by kernel_rfl) (aU.cons Tryz.func24 (by kernel_rfl) (aU.cons Tryz.func49 (by kernel_rfl) (aU.cons Tryz.func50 (by kernel_rfl) (aU.cons Tryz.func51 (by kernel_rfl) (aU.cons Tryz.func52 (by kernel_rfl) (aU.cons Tryz.func53 (by kernel_rfl) (aU.cons Tryz.func54 (by kernel_rfl) (aU.cons Tryz.func55 (by kernel_rfl) (aU.cons Tryz.func56 (by kernel_rfl) (aU.cons Tryz.func57 (by kernel_rfl) (aU.cons Tryz.func58 (by kernel_rfl) (aU.cons Tryz.func96 (by kernel_rfl) (aU.cons Tryz.func97 (by kernel_rfl) (aU.cons Tryz.func98 (by kernel_rfl) (aU.cons Tryz.func99 (by kernel_rfl) (aU.cons Tryz.func100 (by kernel_rfl) (aU.cons Tryz.func101 (by kernel_rfl) (aU.cons Tryz.func102 (by kernel_rfl) (aU.cons Tryz.func103 (by kernel_rfl) (aU.cons Tryz.func104 (by kernel_rfl) (aU.cons Tryz.func106 (by kernel_rfl) (aU.cons Tryz.func107 (by kernel_rfl) (aU.cons Tryz.func108 (by kernel_rfl) (aU.cons Tryz.func109 (by kernel_rfl) (aU.cons Tryz.func110 (by kernel_rfl) (aU.cons Tryz.func113 (by kernel_rfl) (aU.cons Tryz.func111 (by kernel_rfl) (aU.cons Tryz.func115 (by kernel_rfl) (aU.cons Tryz.func114 (by kernel_rfl) (aU.cons Tryz.func117 (by kernel_rfl) (aU.cons Tryz.func118 (by kernel_rfl) (aU.cons Tryz.func119 (by kernel_rfl) (aU.cons Tryz.func171 (by kernel_rfl) (aU.cons Tryz.func67 (by kernel_rfl) (aU.cons Tryz.func174 (by kernel_rfl) (aU.cons Tryz.func112 (by kernel_rfl) (aU.cons Tryz.func177 (by kernel_rfl) (aU.cons Tryz.func116 (by kernel_rfl) (aU.cons Tryz.func178 (by kernel_rfl) (aU.cons Tryz.func179 (by kernel_rfl) (aU.cons Tryz.func125 (by kernel_rfl) (aU.cons Tryz.func176 (by kernel_rfl) (aU.cons Tryz.func33 (by kernel_rfl) (aU.cons Tryz.func236 (by kernel_rfl) (aU.cons Tryz.func237 (by kernel_rfl) (aU.cons Tryz.func232 (by kernel_rfl) (aU.cons Tryz.func234 (by kernel_rfl) (aU.cons Tryz.func235 (by kernel_rfl) (aU.cons Tryz.func73 (by kernel_rfl) (aU.cons Tryz.func233 (by kernel_rfl) (aU.nil)))))))))))))))))))))))))))))))))))))))))))))))))))))
end Go.AL.Seat
end
noncomputable section
namespace Go.AL.Seat
open Go Go.AL Go.Proofs Go.Pd
set_option maxRecDepth 1000000
def aw1:Str:=[108,101,116,32,120,32,61,32,50,32,105,110,32,97,100,100,40,120,44,32,51,41]
def LZ:AV:=.tup [.lst (.st .token) [⟨5,[108,101,116],0⟩,⟨1,[120],4⟩,⟨6,[61],6⟩,⟨3,[50],8⟩,⟨5,[105,110],10⟩,⟨1,[97,100,100],13⟩,⟨6,[40],16⟩,⟨1,[120],17⟩,⟨6,[44],18⟩,⟨3,[51],20⟩,⟨6,[41],21⟩,⟨0,[],22⟩] none,.agg [.int .i64 0,.int .i64 0]]
def aw2:Str:=[49,40,50,41]
def M0:AV:=.tup [.lst (.st .token) [⟨3,[49],0⟩,⟨6,[40],1⟩,⟨3,[50],2⟩,⟨6,[41],3⟩,⟨0,[],4⟩] none,.agg [.int .i64 0,.int .i64 0]]
variable [Tabs] [SeatLaid] [SeatPow]
theorem Mq:an Tryz.prog 22 [.str aw1] [] (.ret LZ):=gh (n:=100) mixed jH jG fq (by kernel_rfl:sA aZ iJ pJ pI 5000 (ep mV) 100 22 [.str aw1] []=some ⟨none,none,LZ,[]⟩)
theorem Mr:an Tryz.prog 22 [.str aw2] [] (.ret M0):=gh (n:=100) mixed jH jG fq (by kernel_rfl:sA aZ iJ pJ pI 5000 (ep mV) 100 22 [.str aw2] []=some ⟨none,none,M0,[]⟩)
end Go.AL.Seat
end
noncomputable section
namespace Go.AL.Seat
open Go Go.AL Go.Proofs Go.Pd
set_option maxRecDepth 1000000
def aw3:Str:=[40,102,117,110,32,40,120,58,32,65,110,121,41,32,45,62,32,120,40,120,41,41,40,102,117,110,32,40,120,58,32,65,110,121,41,32,45,62,32,120,40,120,41,41]
def M1:AV:=.tup [.lst (.st .token) [⟨6,[40],0⟩,⟨5,[102,117,110],1⟩,⟨6,[40],5⟩,⟨1,[120],6⟩,⟨6,[58],7⟩,⟨2,[65,110,121],9⟩,⟨6,[41],12⟩,⟨6,[45,62],14⟩,⟨1,[120],17⟩,⟨6,[40],18⟩,⟨1,[120],19⟩,⟨6,[41],20⟩,⟨6,[41],21⟩,⟨6,[40],22⟩,⟨5,[102,117,110],23⟩,⟨6,[40],27⟩,⟨1,[120],28⟩,⟨6,[58],29⟩,⟨2,[65,110,121],31⟩,⟨6,[41],34⟩,⟨6,[45,62],36⟩,⟨1,[120],39⟩,⟨6,[40],40⟩,⟨1,[120],41⟩,⟨6,[41],42⟩,⟨6,[41],43⟩,⟨0,[],44⟩] none,.agg [.int .i64 0,.int .i64 0]]
variable [Tabs] [SeatLaid] [SeatPow]
theorem Ms:an Tryz.prog 22 [.str aw3] [] (.ret M1):=gh (n:=100) mixed jH jG fq (by kernel_rfl:sA aZ iJ pJ pI 5000 (ep mV) 100 22 [.str aw3] []=some ⟨none,none,M1,[]⟩)
end Go.AL.Seat
end
noncomputable section
namespace Go.AL.Seat
open Go Go.AL Go.Proofs Go.Pd
set_option maxRecDepth 1000000
def KE(s:Str)(p:Int):Trm:=⟨5,[],s,0,[],[],[],[],p⟩
def KF(n p:Int):Trm:=⟨1,[],[],n,[],[],[],[],p⟩
def tfun(a b c:Int):Trm:=⟨6,[],[],0,[[120]],[],[⟨4,[],[],[],[]⟩],[⟨7,[],[],0,[],[],[],[KE [120] b,KE [120] c],b⟩],a⟩
def IY:Trm:=⟨14,[],[120],0,[],[],[],[KF 2 8,⟨7,[],[],0,[],[],[],[KE [97,100,100] 13,KE [120] 17,KF 3 20],13⟩],0⟩
def IZ:Trm:=⟨7,[],[],0,[],[],[],[KF 1 0,KF 2 2],0⟩
def J0:Trm:=⟨7,[],[],0,[],[],[],[tfun 1 17 19,tfun 23 39 41],0⟩
def awA(t:Trm):AV:=.tup [.agg [.int .i64 t.kind,.str t.pkg,.str t.name,.int .i64 t.n,.nils,.nils,.nils,.lst (.st .term) t.parts none,.int .i64 t.pos],.agg [.int .i64 0,.int .i64 0]]
variable [Tabs] [SeatLaid] [SeatPow]
def J1:List (Nat×Pat):=(22,qc [.str aw1] LZ)::mV
theorem G6:bz Tryz.prog (ep J1):=sc (mh (ee Tryz.func22) Mq) jG
theorem Mt:an Tryz.prog 13 [.str aw1] [] (.ret (awA IY)):=gh (n:=100) mixed jH G6 fq (by kernel_rfl:sA aZ iJ pJ pI 5000 (ep J1) 100 13 [.str aw1] []=some ⟨none,none,awA IY,[]⟩)
end Go.AL.Seat
end
noncomputable section
namespace Go.AL.Seat
open Go Go.AL Go.Proofs Go.Pd
set_option maxRecDepth 1000000
variable [Tabs] [SeatLaid] [SeatPow]
def J2:List (Nat×Pat):=(22,qc [.str aw2] M0)::mV
theorem G7:bz Tryz.prog (ep J2):=sc (mh (ee Tryz.func22) Mr) jG
theorem Mu:an Tryz.prog 13 [.str aw2] [] (.ret (awA IZ)):=gh (n:=100) mixed jH G7 fq (by kernel_rfl:sA aZ iJ pJ pI 5000 (ep J2) 100 13 [.str aw2] []=some ⟨none,none,awA IZ,[]⟩)
end Go.AL.Seat
end
noncomputable section
namespace Go.AL.Seat
open Go Go.AL Go.Proofs Go.Pd
set_option maxRecDepth 1000000
variable [Tabs] [SeatLaid] [SeatPow]
def J3:List (Nat×Pat):=(22,qc [.str aw3] M1)::mV
theorem G8:bz Tryz.prog (ep J3):=sc (mh (ee Tryz.func22) Ms) jG
theorem Mv:an Tryz.prog 13 [.str aw3] [] (.ret (awA J0)):=gh (n:=100) mixed jH G8 fq (by kernel_rfl:sA aZ iJ pJ pI 5000 (ep J3) 100 13 [.str aw3] []=some ⟨none,none,awA J0,[]⟩)
end Go.AL.Seat
end
noncomputable section
namespace Go.AL.Seat
open Go Go.AL Go.Proofs Go.Pd
set_option maxRecDepth 1000000
mutual
theorem eqT_snd:∀{a b:Trm},eqT a b true=true->a=b
 |⟨k,g,q,z,ns,vs,ss,ps,pp⟩,⟨k',g',q',z',ns',vs',ss',ps',pp'⟩,h=>by simp only[eqT,MO,MS,PM,Bool.false_or]at h;obtain⟨⟨⟨⟨⟨⟨⟨⟨rfl,rfl⟩,rfl⟩,rfl⟩,rfl⟩,rfl⟩,rfl⟩,h1⟩,h2⟩:=h;rw[eqL_eq h1,eqTL_snd h2]
theorem eqTL_snd:∀{a b:List Trm},eqTL a b true=true->a=b
 |[],[],_=>rfl
 |[],_::_,h=>by simp[eqTL]at h
 |_::_,[],h=>by simp[eqTL]at h
 |a::r,b::s,h=>by simp only[eqTL,MO]at h;rw[eqT_snd h.1,eqTL_snd h.2]
end
def awR1:Rn:=⟨⟨1,5,[],[],[],[]⟩,1,⟨0,0⟩⟩
def awR2:Rn:=⟨fo,0,⟨291,0⟩⟩
def awR3:Rn:=⟨fo,0,⟨292,39⟩⟩
theorem Mw:qt 60 60 IY 5=some awR1:=by kernel_rfl
theorem Mx:qt 60 60 IZ 5=some awR2:=by kernel_rfl
theorem My:qt 60 60 J0 9=some awR3:=by kernel_rfl
variable [Tabs] [SeatLaid] [SeatPow]
def runV(r:Rn):AV:=.tup [.st .val r.v,.int .i64 r.st,.st .fault r.f]
def E3(u:Trm)(s:Int)(r:Rn):Pat:=q2 (.st .term) (.int .i64) (fun t k=>eqT t u true&&decide (k=s)) fun _ _=>runV r
theorem xm{u:Trm}{s:Int}{r:Rn}(hf:bR u=true)(h:qt 60 60 u s=some r):ag Tryz.prog 14 (E3 u s r):=
 yn (O:=fun t k=>t=u/\k=s) (cP (ee Tryz.func14) fun t k ht hk ho=>by
  obtain⟨rfl,rfl⟩:=ho _ rfl;have q:=G4 60 60 t k ht hk hf (by rw[h];rfl) (D0 60 60 (IQ 60 60 (pH 60) (tL 60 (tK 60))));rw[h]at q;exact q) fun t k q=>by
  rw[MO]at q;exact⟨eqT_snd q.1,Xo q.2⟩
end Go.AL.Seat
end
noncomputable section
namespace Go.AL.Seat
open Go Go.AL Go.Proofs
variable [Tabs]
def J4:List (Nat×TR):=[(28,⟨.strct true [(0,26),(1,3)],2,16,[.int .i64 0,.int .i64 0],some (.st .fault)⟩),(26,r2),(3,r2),(51,⟨.strct false [(0,3),(1,9),(2,9),(3,3),(4,36),(5,36),(6,46),(7,49),(8,3)],9,152,[.int .i64 0,.str [],.str [],.int .i64 0,.nils,.nils,.nils,.nils,.int .i64 0],some (.st .term)⟩),(61,⟨.strct false [(0,3),(1,2),(2,9),(3,9),(4,36),(5,59)],6,96,[.int .i64 0,.int .i64 0,.str [],.str [],.nils,.nils],some (.st .val)⟩),(9,r9),(2,r2),(36,⟨.slice 9,1,24,[.nils],some (.lst .str)⟩),(46,⟨.slice 48,1,24,[.nils],some (.lst (.st .shape))⟩),(60,⟨.strct false [(0,3),(1,2),(2,9),(3,9),(4,36),(5,59)],6,96,[.int .i64 0,.int .i64 0,.str [],.str [],.nils,.nils],none⟩),(59,⟨.slice 61,1,24,[.nils],some (.lst (.st .val))⟩),(27,⟨.strct true [(0,26),(1,3)],2,16,[.int .i64 0,.int .i64 0],none⟩),(50,⟨.strct false [(0,3),(1,9),(2,9),(3,3),(4,36),(5,36),(6,46),(7,49),(8,3)],9,152,[.int .i64 0,.str [],.str [],.int .i64 0,.nils,.nils,.nils,.nils,.int .i64 0],none⟩),(49,⟨.slice 51,1,24,[.nils],some (.lst (.st .term))⟩),(48,⟨.strct false [(0,3),(1,9),(2,9),(3,36),(4,46)],5,88,[.int .i64 0,.str [],.str [],.nils,.nils],some (.st .shape)⟩),(47,⟨.strct false [(0,3),(1,9),(2,9),(3,36),(4,46)],5,88,[.int .i64 0,.str [],.str [],.nils,.nils],none⟩)]
theorem J5:aP Tryz.prog J4:=.cons tk (.cons tk (.cons tk (.cons tk (.cons tk (.cons tk (.cons tk (.cons tk (.cons tk (.cons tk (.cons tk (.cons tk (.cons tk (.cons tk (.cons tk (.cons tk (.nil))))))))))))))))
end Go.AL.Seat
end
noncomputable section
namespace Go.AL.Seat
open Go Go.AL Go.Proofs
set_option maxRecDepth 1000000
variable [Tabs]
def M3(f:Nat):List (Option Nat):=[]
def M4(f:Nat):Bool:=false
def Aj:List (Nat×FB):=(7,bQ J4 Tryz.f7 40191 [] (fun _=>false) (fun _=>false) (fun _=>false) false)::[]
theorem Ak:aU Tryz.prog Aj:=aU.cons Tryz.func7 (by kernel_rfl) (aU.nil)
end Go.AL.Seat
end
noncomputable section
namespace Go.AL.Seat
open Go Go.AL Go.Proofs Go.Pd
set_option maxRecDepth 1000000
variable [Tabs] [SeatLaid] [SeatPow]
def KY:List (Nat×Pat):=[(13,qc [.str aw1] (awA IY)),(13,qc [.str aw2] (awA IZ)),(13,qc [.str aw3] (awA J0)),(14,E3 IY 5 awR1),(14,E3 IZ 5 awR2),(14,E3 J0 9 awR3)]
theorem J6:bz Tryz.prog (ep KY):=sc (mh (ee Tryz.func13) Mt) (sc (mh (ee Tryz.func13) Mu) (sc (mh (ee Tryz.func13) Mv) (sc (xm rfl Mw) (sc (xm rfl Mx) (sc (xm rfl My) sn)))))
theorem Al:ag Tryz.prog 7 (p0 (.ret (.bool true))):=
 KW (ee Tryz.func7) (gh (n:=2) mixed J5 J6 Ak (by kernel_rfl:sA J4 Aj M4 M3 50 (ep KY) 2 7 [] []=some ⟨none,none,.bool true,[]⟩))
end Go.AL.Seat
end
noncomputable section
namespace Go.AL
variable [Tabs]
open Go.ChangeShapes Go.WideShapes Go.RowKit
def E4(w:World)(b o:Nat):Prop:=∃v,w.cell? ⟨b,o,none⟩=some v
def Om0(w:World):Om:=⟨fun _=>none,w,E4 w⟩
theorem G9{P:Program}{f:Nat}{args:List AV}(h:an P f args [] (.ret (.bool true))){w:World}{vs:List Value}(htab:∀b o v,Tabs.tab b o v->w.cell? ⟨b,o,none⟩=some v)(hobj:∀b x,Tabs.obj b x->w.heap[b]?=some x)(hv:VL (Om0 w) args vs) :
  Calls P f vs.toArray w fun e w'=>e=.returned (.bool true)/\RowKit.Below w.heap.size w w':=by
 refine Calls.mono (h w (E4 w) (fun _=>none) vs (fun _ _ h=>h) ⟨fun b o v ht=>⟨⟨v,htab b o v ht⟩,htab b o v ht⟩,fun b x hx=>⟨hobj b x hx,fun o ⟨_,_,hc,_⟩=>by cases hc⟩⟩ hv (fun id o ho=>by simp[aN,aG]at ho) (fun _ _=>rfl) (fun i j c d b o hc=>by cases hc)) ?_;intro e w' hq;obtain⟨pub',e',hq⟩:=hq
 cases e with
 |returned v=>obtain⟨_,hv,ha⟩:=hq;have:=hv.bool_inv;subst this;exact⟨rfl,ha.os,ha.tape,ha.output,ha.size,fun b hb=>ha.block b hb fun o ⟨id,c,hc,_⟩=>by cases hc⟩
 |panicked ch=>obtain⟨pv,u,v,hp,_⟩:=hq;cases hp
 |outgrown=>exact hq.elim
section
variable {H:Type} {enc:TypeId×Value->H} {P:Program}
theorem mW(hl:laidOutB P=true){W W':World}(hb:Below W.heap.size W W'){sp:Nat->Bool}:∀{ts:List TypeId} {vs:List Value} {ds:List (DataW H)} {p:List MemPlace},
  (∀t∈ts,P.readableRec t=true/\t<P.types.size)->DataW.TrodAll enc P W 0 (fun _=>true) true ts vs ds p->(∀x∈p,x.block<W.heap.size)->(∀x∈p,sp x.block=true)->DataW.TrodAll enc P W' 0 sp true ts vs ds p
 |[],_,_,_,_,h,_,_=>by obtain⟨rfl,rfl,rfl⟩:=trodAll_nil h;exact h
 |t::ts,_,_,_,hr,h,hlt,hsp=>by
  obtain⟨v,vs,d,ds,p,q,rfl,rfl,rfl,h1,h2⟩:=trodAll_cons h;obtain⟨r1,r2⟩:=hr t (by simp)
  exact⟨p,q,WideElems.Trod_stays hl r1 r2 h1 (fun x hx=>hb.same (hlt x (by simp[hx]))) (fun x hx=>hsp x (by simp[hx])),
   mW hl hb (fun t ht=>hr t (by simp[ht])) h2 (fun x hx=>hlt x (by simp[hx])) (fun x hx=>hsp x (by simp[hx])),rfl⟩
theorem J7(hl:laidOutB P=true){f:Func}{s:ChangeSpec}{apart fresh handsOn again:Bool}{W W':World}{args:Array Value}{ds gs:List (DataW H)}{before:List MemPlace}{tb:TypeId}
 (hr:∀t∈f.params.toList,P.readableRec t=true/\t<P.types.size)(hvars:s.vars=[])(hfn:∀ds:List (DataW H),ds.length=f.params.size->s.fn H ds={results:=[.lit (.bool true)],args:=ds})(hrt:f.resultTypes=#[tb])(htb:P.underlying tb=some .bool)
 (hW:DataW.Whole enc P f.params.toList s.vars apart W args.toList ds gs before)(hb:Below W.heap.size W W'):s.post enc P f apart fresh handsOn again W args (.bool true) W':=by
 have hlt:∀p∈before,p.block<W.heap.size:=fun p hp=>hW.lt p hp;have hW0:=hW;obtain⟨p,q,hA,hV,e,hz,hn⟩:=hW;rw[hvars]at hV;obtain⟨rfl,rfl⟩:=trodVars_none hV;rw[Oq]at e;subst e
 have hlen:ds.length=f.params.size:=by
  have:∀{ts:List TypeId} {vs:List Value} {ds:List (DataW H)} {p:List MemPlace},DataW.TrodAll enc P W 0 (fun _=>true) true ts vs ds p->ds.length=ts.length:=by
   intro ts
   induction ts with
   |nil=>intro vs ds p h;obtain⟨rfl,rfl,rfl⟩:=trodAll_nil h;rfl
   |cons t ts ih=>intro vs ds p h;obtain⟨v,vs,d,ds,p,q,rfl,rfl,rfl,h1,h2⟩:=trodAll_cons h;simp[ih h2]
  simpa using this hA
 have hf:=hfn ds hlen;have hs:∀sp:Nat->Bool,(∀x∈before,sp x.block=true)->DataW.TrodAll enc P W' 0 sp true f.params.toList args.toList ds before:=fun sp hsp=>mW hl hb hr hA hlt hsp;have hres:∀(b:Nat)(sp:Nat->Bool)(hd:Bool),DataW.TrodAll enc P W' b sp hd f.resultTypes.toList ((Value.bool true).resultList f.resultTypes.size) [.lit (.bool true)] []:=by intro b sp hd;rw[hrt];exact trodAll_cons_mk (shut_bool htb true) trodAll_mk0
 have hvs:DataW.TrodVars enc P W' (fun b=>decide (b<W.heap.size)) s.vars [] []:=by rw[hvars];rfl
 refine⟨ds,[],before,[],before,[],hW0,?_,?_,?_,World.keptBut_mono (fun x hx=>⟨hx,.inr (.inl hx)⟩) (hb.frame (·∈before)),fun _=>⟨?_,?_⟩⟩
 ·rw[Oq,hf];exact hres _ _ _
 ·rw[Oq,hf];exact hs _ fun x hx=>by simpa using hlt x hx
 ·rw[Oq,hf];exact hvs
 ·intro j t r h1 h2;rw[hrt]at h1 h2
  cases j with
  |zero=>
   simp at h1;subst h1;have:r=.bool true:=by simp[Value.resultList]at h2;exact h2.symm
   subst this;simp[Value.okWide,htb,Cell.okWide,Cell.ok]
  |succ j=>simp at h1
 ·refine⟨[.lit (.bool true)]++ds,[],[]++before,⟨[]++before,[],trodAll_append (hs _ fun _ _=>rfl) (hres _ _ _),by rw[hvars];rfl,by simp,fun b off hp=>?_,fun ha=>by simpa using hn ha⟩,fun x hx _=>by simpa using hx⟩;have hin:MemPlace.cell b off∈before:=by simpa using hp
  rw[hb.frozen (p:=⟨b,off,none⟩) (hlt _ hin)];exact hz b off hin
variable {w:World} {base:Nat} {sp:Nat->Bool} {held:Bool}
theorem kK{t:TypeId}{k:IntKind}{fuel:Nat}{cs:List Value}{x:DataW H×List MemPlace}(ht:P.underlying t=some (.int k))(h:DataW.trod enc P w base sp held fuel t cs=some x) :
  ∃n:Int,cs=[.int k n]/\V (Om0 w) (.int k n) (.int k n):=by
 obtain⟨n,rfl,_,hw⟩:=DataW.trod_int ht h;simp only[Lit.wf,MO,MS]at hw;exact⟨n,rfl,.int k n hw.1 hw.2⟩
theorem mX{t:TypeId}{fuel:Nat}{cs:List Value}{x:DataW H×List MemPlace}(ht:P.underlying t=some .string)(h:DataW.trod enc P w base sp held fuel t cs=some x) :
  ∃(s:Str)(v:Value),cs=[v]/\V (Om0 w) (.str s) v:=by
 obtain⟨s,rfl,_,hw⟩:=DataW.trod_string ht h;refine⟨s.data.toList,_,rfl,?_⟩;have e:s=⟨s.data.toList.toArray⟩:=by cases s;simp
 have hl:s.data.toList.length<=aX:=by have:s.data.size=s.size:=rfl;unfold maxLen at hw;unfold aX;simp only[Oh,this];omega
 have:=V.str (Ω:=Om0 w) s.data.toList hl;rw[<-e]at this;exact this
theorem Mz{t e:TypeId}{τ:Ty}{fuel:Nat}{cs:List Value}{x:DataW H×List MemPlace}(ht:P.underlying t=some (.slice e))(hc:P.cellsOf e=ab τ)(h:DataW.trod enc P w base sp held fuel t cs=some x)
 (hel:∀(n:Nat)(ds:List Value)(y:DataW H×List MemPlace),fuel=n+1->DataW.trod enc P w base sp held n e ds=some y->∃z:den τ,VL (Om0 w) (cells τ z) ds)
 (hsp:∀a len cap,cs=[.slice (some a) len cap]->a.spot=none):∃(l:List (den τ))(v:Value),cs=[v]/\V (Om0 w) (.lst τ l none) v:=by
 rcases Pr ht h with⟨rfl,_⟩|⟨a,len,cap,elems,rest,n,hfu,rfl,_,_,hlc,hcm,hlen,hels,_,_⟩
 ·exact⟨[],_,rfl,.lstNil τ none (fun id hid=>by cases hid)⟩
 ·have hs:=hsp a len cap rfl;obtain⟨b,off,spot⟩:=a;simp only at hs;subst hs
  have each:∀i,i<len->∃z:den τ,∃ds:List Value,ds.length=ab τ/\(∀j,j<ab τ->w.cell? ⟨b,off+(i *ab τ+j),none⟩=ds[j]?)/\VL (Om0 w) (cells τ z) ds:=by
   intro i hi;have h1:=hels i hi;obtain⟨y,hy⟩:∃y,elems[i]?=some y:=⟨_,MN (by omega)⟩;rw[hy,hc,O4]at h1;obtain⟨ds,hd,hy'⟩:=h1;obtain⟨_,hdl,hdc⟩:=PH hd;obtain⟨z,hz⟩:=hel n ds y hfu hy';refine⟨z,ds,hdl,fun j hj=>?_,hz⟩;have:=hdc j hj
   have ha:∀(o n:Nat),(⟨b,o,none⟩:Addr).add n=⟨b,o+n,none⟩:=by
    intro o n;unfold Addr.add;by_cases h0:n=0
    ·subst h0;rfl
    ·rw[MP h0]
   rw[ha,ha,Oy]at this;exact this
  have hz:∃l:List (den τ),l.length=len/\∀i z,l[i]?=some z->∃ds:List Value,ds.length=ab τ/\(∀j,j<ab τ->w.cell? ⟨b,off+(i *ab τ+j),none⟩=ds[j]?)/\VL (Om0 w) (cells τ z) ds:=by
   refine⟨(List.range len).attach.map fun i=>(each i.1 (On.1 i.2)).choose,by simp,fun i z hi=>?_⟩;have hil:i<len:=by have:=(Ns.1 hi).1;simpa using this
   simp only[Nj,MY]at hi;obtain⟨⟨k,hk⟩,h1,h2⟩:=hi;have hki:k=i:=by have:=Ns.1 h1;obtain⟨_,e⟩:=this;have:=Ou Subtype.val e;simpa using this.symm
   subst hki;rw[<-h2];exact(each k (On.1 hk)).choose_spec
  obtain⟨l,hll,hle⟩:=hz;refine⟨l,_,rfl,?_⟩;have key:=V.lst (Ω:=Om0 w) τ l none b off cap (fun i j=>(w.cell? ⟨b,off+(i *ab τ+j),none⟩).getD undef) (by omega) (by unfold maxLen at hcm;unfold aX;omega) (fun id hid=>by cases hid) (fun i z hz j c hj=>?_) (fun i z hz j c hj=>?_)
  ·rw[hll]at key;exact key
  ·obtain⟨ds,d1,d2,d3⟩:=hle i z hz;have hjw:j<ab τ:=by rw[<-aJ τ z];exact(Ns.1 hj).1
   have hv:w.cell? ⟨b,off+(i *ab τ+j),none⟩=some ds[j]:=by rw[d2 j hjw];exact MN (by omega)
   refine⟨⟨_,hv⟩,?_⟩;show w.cell? _=_;rw[hv];rfl
  ·obtain⟨ds,d1,d2,d3⟩:=hle i z hz;have hjw:j<ab τ:=by rw[<-aJ τ z];exact(Ns.1 hj).1
   have hd:ds[j]?=some ds[j]:=MN (by omega);rw[d2 j hjw,hd];exact d3.2 j c ds[j] hj hd
theorem J8{r:Reach}{b0:Nat}{t e:TypeId}{v:Value}(ht:P.underlying t=some (.slice e))(hv:Value.okWide P w r b0 t v):∀a len cap,v.cells.toList=[.slice (some a) len cap]->a.spot=none:=by
 intro a len cap hc;have:Cell.okWide P w r b0 t v:=by unfold Value.okWide at hv;rw[ht]at hv;exact hv
 unfold Cell.okWide at this;rw[ht]at this;have hok:Cell.ok P w r b0 t v:=by cases v<;>exact this
 unfold Cell.ok at hok;rw[ht]at hok
 cases v with
 |slice o l c=>simp[Value.cells]at hc;obtain⟨rfl,rfl,rfl⟩:=hc;simp only at hok;exact hok.2.2.2.1
 |_=>first|exact hok.elim|(simp[Value.cells]at hc)
theorem KG{r:Reach}{b0:Nat}{t e:TypeId}{v:Value}(ht:P.underlying t=some (.slice e))(hv:Value.okWide P w r b0 t v):v.cells.toList=[v]:=by
 have:Cell.okWide P w r b0 t v:=by unfold Value.okWide at hv;rw[ht]at hv;exact hv
 unfold Cell.okWide at this;rw[ht]at this;have hok:Cell.ok P w r b0 t v:=by cases v<;>exact this
 unfold Cell.ok at hok;rw[ht]at hok
 cases v with|slice o l c=>rfl|_=>exact hok.elim
end
end Go.AL
end
noncomputable section
namespace Go.AL
variable [Tabs]
open Go.ChangeShapes Go.WideShapes Go.RowKit
variable {H:Type} {enc:TypeId×Value->H} {P:Program} {w:World} {base:Nat} {held:Bool}
theorem qP{sp:Nat->Bool}{t:TypeId}{fs:Array Field}{fuel:Nat}{cs:List Value}{x:DataW H×List MemPlace}(ht:P.underlying t=some (.struct fs))(h:DataW.trod enc P w base sp held fuel t cs=some x) :
  ∃n,fuel=n+1/\cs.length=P.cellsOf t/\∀(i:Nat)(f:Field),fs[i]?=some f->∃y,DataW.trod enc P w base sp held n f.type ((cs.drop f.offset).take (P.cellsOf f.type))=some y:=by
 obtain⟨xs,n,hn,_,hl,hx,hf⟩:=DataW.trod_struct ht h;refine⟨n,hn,hl,fun i f hif=>?_⟩
 have hi:i<xs.length:=by
  rw[hx];rcases MV i fs.size with k|k
  ·exact k
  ·rw[Nz k]at hif;cases hif
 exact⟨xs[i],by rw[hf i f hif];exact MN hi⟩
theorem nF{t e:TypeId}{τ:Ty}{fuel:Nat}{cs:List Value}{x:DataW H×List MemPlace}(ht:P.underlying t=some (.slice e))(hc:P.cellsOf e=ab τ)(hw:0<ab τ)
 (h:DataW.trod enc P w base (fun _=>true) held fuel t cs=some x)
 (hel:∀(n:Nat)(ds:List Value)(y:DataW H×List MemPlace),fuel=n+1->DataW.trod enc P w base (fun _=>true) held n e ds=some y->∃z:den τ,VL (Om0 w) (cells τ z) ds) :
  ∃(l:List (den τ))(v:Value),cs=[v]/\V (Om0 w) (.lst τ l none) v:=by
 have h0:=h;rcases Pr ht h with⟨rfl,_⟩|⟨a,len,cap,elems,rest,n,hfu,rfl,_,_,hlc,hcm,hlen,hels,hrest,_⟩
 ·exact⟨[],_,rfl,.lstNil τ none (fun id hid=>by cases hid)⟩
 ·by_cases hcap:cap=0
  ·have:len=0:=by omega
   subst hcap this;exact⟨[],_,rfl,.lstVoid τ a⟩
  ·refine Mz ht hc h0 hel fun a' len' cap' e'=>?_;simp only[NZ,O0,Xs,NN]at e';obtain⟨rfl,rfl,rfl⟩:=e'
   have hr:∃(ad:Addr)(y:DataW H×List MemPlace),ad=a/\(w.cells? base ad (P.cellsOf e)).bind (DataW.trod enc P w base (fun _=>true) held n e)=some y:=by
    by_cases hl:len=0
    ·obtain⟨r1,r2⟩:=hrest rfl;have:=r2 0 (by omega);rw[hl]at this;refine⟨_,_,?_,this.trans (MN (by omega))⟩;simp[Addr.add]
    ·have:=hels 0 (by omega);refine⟨_,_,?_,this.trans (MN (by omega))⟩;simp[Addr.add]
   obtain⟨ad,y,rfl,hy⟩:=hr;rw[O4]at hy;obtain⟨ds,hd,_⟩:=hy;obtain⟨_,hdl,hdc⟩:=PH hd;have:=hdc 0 (by rw[hc];exact hw);have ha:ad.add 0=ad:=by simp[Addr.add]
   rw[ha,MN (by rw[hdl,hc];exact hw)]at this;unfold World.cell? at this;split at this
   ·split at this
    ·cases this
    ·rename_i hs;cases hsp:ad.spot
     ·rfl
     ·rw[hsp]at hs;exact absurd rfl hs
   ·cases this
structure ShapeAt(P:Program)(t:TypeId):Prop where
 ex:∃(f0 f1 f2 f3 f4:Field)(e:TypeId),P.underlying t=some (.struct #[f0,f1,f2,f3,f4])/\P.cellsOf t=5/\
  (f0.offset=0/\f1.offset=1/\f2.offset=2/\f3.offset=3/\f4.offset=4)/\
  (P.cellsOf f0.type=1/\P.cellsOf f1.type=1/\P.cellsOf f2.type=1/\P.cellsOf f3.type=1/\P.cellsOf f4.type=1)/\
  P.underlying f0.type=some (.int .i64)/\P.underlying f1.type=some .string/\P.underlying f2.type=some .string/\P.underlying f3.type=some (.slice e)/\P.underlying e=some .string/\P.cellsOf e=1/\P.underlying f4.type=some (.slice t)
theorem E5{t:TypeId}(hs:ShapeAt P t):∀(fuel:Nat)(cs:List Value)(x:DataW H×List MemPlace),DataW.trod enc P w base (fun _=>true) held fuel t cs=some x->∃s:Shape,VL (Om0 w) (cells (.st .shape) s) cs:=by
 obtain⟨f0,f1,f2,f3,f4,e,ht,hc,⟨o0,o1,o2,o3,o4⟩,⟨c0,c1,c2,c3,c4⟩,u0,u1,u2,u3,us,ce,u4⟩:=hs;intro fuel
 induction fuel using Nat.strongRecOn with
 |_ fuel ih=>
 intro cs x h;obtain⟨n,hn,hl,hf⟩:=qP ht h;rw[hc]at hl;obtain⟨y0,h0⟩:=hf 0 f0 rfl;obtain⟨y1,h1⟩:=hf 1 f1 rfl;obtain⟨y2,h2⟩:=hf 2 f2 rfl;obtain⟨y3,h3⟩:=hf 3 f3 rfl;obtain⟨y4,h4⟩:=hf 4 f4 rfl
 match cs,hl with
 |[a0,a1,a2,a3,a4],_=>
  rw[o0,c0]at h0;rw[o1,c1]at h1;rw[o2,c2]at h2;rw[o3,c3]at h3;rw[o4,c4]at h4;simp only[Ol,Oa,NS,OF]at h0 h1 h2 h3 h4;obtain⟨k,e0,v0⟩:=kK u0 h0;obtain⟨p,v,e1,v1⟩:=mX u1 h1;obtain⟨m,v',e2,v2⟩:=mX u2 h2;obtain⟨ns,v'',e3,v3⟩:=nF (τ:=.str) u3 (by rw[ce];rfl) (by decide) h3 fun n' ds y _ hy=>by obtain⟨s,v,rfl,hv⟩:=mX us hy;exact⟨s,VL.cons hv .nil⟩
  obtain⟨ps,v''',e4,v4⟩:=nF (τ:=.st .shape) u4 (by rw[hc];rfl) (by decide) h4 fun n' ds y hn' hy=>ih n' (by omega) ds y hy;simp only[NZ,NN]at e0 e1 e2 e3 e4;subst e0 e1 e2 e3 e4;exact⟨⟨k,p,m,ns,ps⟩,VL.cons v0 (VL.cons v1 (VL.cons v2 (VL.cons v3 (VL.cons v4 .nil))))⟩
structure ItemAt(P:Program)(t:TypeId):Prop where
 ex:∃(f0 f1 f2:Field),P.underlying t=some (.struct #[f0,f1,f2])/\P.cellsOf t=7/\(f0.offset=0/\f1.offset=1/\f2.offset=2)/\
  (P.cellsOf f0.type=1/\P.cellsOf f1.type=1/\P.cellsOf f2.type=5)/\P.underlying f0.type=some (.int .i64)/\P.underlying f1.type=some .string/\ShapeAt P f2.type
end Go.AL
end
noncomputable section
namespace Go.AL
open Go.ChangeShapes Go.WideShapes Go.RowKit
abbrev lQ(w:World):Tabs:=⟨fun b o v=>b<8/\w.cell? ⟨b,o,none⟩=some v,fun b x=>b<8/\w.heap[b]?=some x⟩
variable [Tabs]
variable {H:Type} {enc:TypeId×Value->H} {P:Program} {w:World} {base:Nat} {held:Bool}
structure TokAt(P:Program)(t:TypeId):Prop where
 ex:∃(f0 f1 f2:Field),P.underlying t=some (.struct #[f0,f1,f2])/\P.cellsOf t=3/\(f0.offset=0/\f1.offset=1/\f2.offset=2)/\
  (P.cellsOf f0.type=1/\P.cellsOf f1.type=1/\P.cellsOf f2.type=1)/\P.underlying f0.type=some (.int .i64)/\P.underlying f1.type=some .string/\P.underlying f2.type=some (.int .i64)
theorem Am{t:TypeId}(ht:P.underlying t=some (.int .i64)){r:Reach}{b0:Nat}{v:Value}{d:DataW H}{ps:List MemPlace}(hv:Value.okWide P w r b0 t v)(h:DataW.Trod enc P w base (fun _=>true) held t v d ps):∃n:Int,V (Om0 w) (.int .i64 n) v:=by obtain⟨n,rfl,_,_,hw⟩:=open_int ht hv h;simp only[Lit.wf,MO,MS]at hw;exact⟨n,.int _ n hw.1 hw.2⟩
end Go.AL
end
noncomputable section
namespace Go.AL
open Go.ChangeShapes Go.WideShapes Go.RowKit
variable [Tabs]
variable {H:Type} {enc:TypeId×Value->H} {P:Program} {w:World} {base:Nat} {held:Bool}
structure BindAt(P:Program)(t:TypeId):Prop where
 ex:∃(f0 f1 f2:Field),P.underlying t=some (.struct #[f0,f1,f2])/\P.cellsOf t=7/\(f0.offset=0/\f1.offset=1/\f2.offset=2)/\
  (P.cellsOf f0.type=1/\P.cellsOf f1.type=1/\P.cellsOf f2.type=5)/\P.underlying f0.type=some .string/\P.underlying f1.type=some .string/\ShapeAt P f2.type
structure EnvAt(P:Program)(t:TypeId):Prop where
 ex:∃(f0 f1 f2 f3:Field)(e:TypeId),P.underlying t=some (.struct #[f0,f1,f2,f3])/\P.cellsOf t=4/\(f0.offset=0/\f1.offset=1/\f2.offset=2/\f3.offset=3)/\
  (P.cellsOf f0.type=1/\P.cellsOf f1.type=1/\P.cellsOf f2.type=1/\P.cellsOf f3.type=1)/\P.underlying f0.type=some .string/\
  (P.underlying f1.type=some (.slice e)/\P.underlying f2.type=some (.slice e)/\P.underlying f3.type=some (.slice e))/\BindAt P e
end Go.AL
end
section
namespace Go.Proofs.YtalkpiobgooadaaGreatDoor.Join
open Go.AL Go.AL.Seat Go.ChangeShapes Go.WideShapes Go.RowKit Go.Lib Go.Shelf
set_option maxRecDepth 1000000
theorem own:ownKnob Tryz.prog.godebug=none:=by kernel_rfl
theorem KH:laidOutB Tryz.prog=true:=by kernel_rfl
theorem undB:Tryz.prog.underlying 4=some .bool:=by kernel_rfl
theorem M5:Tryz.prog.underlying 3=some (.int .i64):=by kernel_rfl
theorem KZ:Tryz.prog.readableRec 3=true:=by kernel_rfl
theorem dG:40<Tryz.prog.types.size:=Xo (by kernel_rfl)
def laid:List (String×DataW Unit):=Rows.evalStepsRow.laid
theorem MA:(Rows.laid_unicode_utf8_acceptRanges:DataW Unit)=acceptData:=by kernel_rfl
theorem MB{W:World}(h:W.ShapedOpen Tryz.prog):∃m,W.cell? ⟨2,0,none⟩=some (.int .i64 m):=
 cell_of_shapedOpen_int (t:=3) (zero:=#[.int .i64 0]) h (Xo (by kernel_rfl)) (by kernel_rfl) rfl (by kernel_rfl) (by kernel_rfl) M5
theorem MC{W:World}(h:laidMet Tryz.prog laid W):Utf8Tabs 0 1 W:=
 utf8Tabs_of_readsT (ρ:=Tryz.lays196_ren) (U8Types.of196 Tryz.lays196) ⟨by kernel_rfl,by kernel_rfl,by kernel_rfl,by kernel_rfl,by kernel_rfl,by kernel_rfl,by kernel_rfl⟩
  (Pinned.utf8First_eq ▸ laidMet.reads h (by simp[laid,Rows.evalStepsRow,Rows.laid_unicode_utf8_first])) (MA ▸ laidMet.reads h (by simp[laid,Rows.evalStepsRow]))
theorem J9{W:World}(h:laidMet Tryz.prog laid W)(hs:W.ShapedOpen Tryz.prog):@SeatLaid (lQ W):=by
 letI:Tabs:=lQ W
 obtain⟨m,hm⟩:=MB hs;obtain⟨u1,u2⟩:=MC h;exact⟨⟨m,by decide,hm⟩,fun c hc=>⟨by decide,u1 c hc⟩,fun i hi=>⟨⟨by decide,(u2 i hi).1⟩,by decide,(u2 i hi).2⟩⟩
theorem KI:(Rows.laid_internal_strconv_uint64pow10:DataW Unit)=tabData .u64 pow10Tab:=by simp only[tabData,pow10Tab];rfl
theorem MD{W:World}(h:laidMet Tryz.prog laid W):TabIs Tryz.prog W "internal/strconv.uint64pow10" .u64 pow10Tab:=by obtain ⟨g,t,cs,fuel,p,hg,hty,hvar,hd⟩:=laidMet.reads h (n:= "internal/strconv.uint64pow10") (d:=Rows.laid_internal_strconv_uint64pow10) (by simp [laid,Rows.evalStepsRow]);obtain rfl:=Ni ((show Tryz.prog.globalNamed "internal/strconv.uint64pow10"=some 5 by kernel_rfl).symm.trans hg);obtain rfl:=Ni ((show (Tryz.prog.globals[5]?).map (·.type)=some 343 by kernel_rfl).symm.trans hty);rw [KI] at hd;have hcs:=cells_of_tab (P:=Tryz.prog) (n:=20) (show Tryz.prog.underlying 343=some (.array 20 232) by kernel_rfl) (show Tryz.prog.underlying 232=some (.int .u64) by kernel_rfl) (by kernel_rfl) (by kernel_rfl) hd;unfold TabIs;rw [hvar,<-hcs]
theorem KJ{W:World}(h:laidMet Tryz.prog laid W):@SeatPow (lQ W):=by
 letI:Tabs:=lQ W
 have hp:=MD h;unfold TabIs World.var? at hp;rw [show Tryz.prog.globalNamed "internal/strconv.uint64pow10"=some 5 by kernel_rfl] at hp;simp only [Po] at hp;refine ⟨?_⟩;unfold wI
 cases hw:W.heap[5]? with
 |none=>rw[hw]at hp;cases hp
 |some o=>
  rw[hw]at hp
  cases o with
  |cells cs t fz=>obtain rfl:=Ni hp;exact⟨t,fz,by decide,hw⟩
  |_=>cases hp
def z32:List Int:=[0,1,28,2,29,14,24,3,30,22,20,15,25,17,4,8,31,27,13,23,21,19,16,7,26,12,18,6,11,5,10,9]
def z64:List Int:=[0,1,56,2,57,49,28,3,61,58,42,50,38,29,17,4,62,47,59,36,45,43,51,22,53,39,33,30,24,18,12,5,63,55,48,27,60,41,37,16,46,35,44,21,52,32,23,11,54,26,40,15,34,20,31,10,25,14,19,9,13,8,7,6]
def zPow:List Int:=[1,10,100,1000,10000,100000,1000000,10000000,100000000,1000000000,10000000000,100000000000,1000000000000,10000000000000,100000000000000,1000000000000000,10000000000000000,100000000000000000,1000000000000000000,10000000000000000000]
def zAcc:List Int:=[128,191,160,191,128,159,144,191,128,143,0,0,0,0,0,0,0,0,0,0,0,0,0,0,0,0,0,0,0,0,0,0]
def M6:List Int:=List.map Int.ofNat Pinned.utf8FirstZ
noncomputable def my(os:Os):World:=
 let N:=(World.settled Tryz.prog os).heap.size
 let w0:=World.holding Tryz.prog os ⟨#[.cells #[.string ⟨#[118,97,108,117,101,32,111,117,116,32,111,102,32,114,97,110,103,101]⟩] 354,.cells #[.string ⟨#[105,110,118,97,108,105,100,32,115,121,110,116,97,120]⟩] 354],#[],[]⟩
 let put (h:Array Obj) (g:Nat) (cs:Array Value):Array Obj:=h.modify g fun
  |.cells _ t frozen=>.cells cs t frozen
  |o=>o
 let h0:=put (put w0.heap 3 #[.iface 352 (.pointer (some ⟨N+1,0,none⟩))]) 4 #[.iface 352 (.pointer (some ⟨N,0,none⟩))]
 let h1:=put (put (put h0 5 (zPow.map (Value.int .u64)).toArray) 6 (z32.map (Value.int .u8)).toArray) 7 (z64.map (Value.int .u8)).toArray
 let h2:=put (put h1 0 (M6.map (Value.int .u8)).toArray) 1 (zAcc.map (Value.int .u8)).toArray
 {w0 with heap:=h2}
noncomputable abbrev N0:Nat:=(World.settled Tryz.prog default).heap.size
theorem M7(os:Os)(args:Array Value):LaidIn Tryz.prog ((my os).forCall (fun _ _=>0) ⟨#[],args,[]⟩).memory laid [6,7,5,1,4,N0,3,N0+1,0]:=
 LaidIn.of_run [6,7,5,1,4,N0,3,N0+1,0] 10 (by kernel_rfl) (by kernel_rfl) (by kernel_rfl) (by kernel_rfl)
theorem Ja(os:Os)(args:Array Value):laidMet Tryz.prog laid ((my os).forCall (fun _ _=>0) ⟨#[],args,[]⟩).memory:=(M7 os args).met
end Go.Proofs.YtalkpiobgooadaaGreatDoor.Join
end
noncomputable section
namespace Go.AL
open Go.ChangeShapes Go.WideShapes Go.RowKit
variable [Tabs]
structure GoodR{H:Type}(P:Program)(N M:Nat)(g:TypeId->DataW H->Prop):Prop where
 str:∀t s,P.underlying t=some .string->g t (.lit (.string s))->s.length<=M
 len:∀t e es sp,P.underlying t=some (.slice e)->g t (.slice es sp)->16<=P.bytesOf e->es.length<=N
 el:∀t e es sp,P.underlying t=some (.slice e)->g t (.slice es sp)->∀x∈es,g e x
 part:∀t fs ps,P.underlying t=some (.struct fs)->g t (.agg ps)->∀(i:Nat)(f:Field) p,fs[i]?=some f->ps[i]?=some p->g f.type p
variable {H:Type} {enc:TypeId×Value->H} {P:Program} {w:World} {base:Nat} {held:Bool}
theorem Jb{N M:Nat}{g:TypeId->DataW H->Prop}(hb:GoodR P N M g){t e:TypeId}{τ:Ty}{Q:den τ->Prop}{fuel:Nat}{cs:List Value}{x:DataW H×List MemPlace}(ht:P.underlying t=some (.slice e))(hc:P.cellsOf e=ab τ)(h:DataW.trod enc P w base (fun _=>true) held fuel t cs=some x)(hg:g t x.1)
 (hel:∀(n:Nat)(ds:List Value)(y:DataW H×List MemPlace),fuel=n+1->DataW.trod enc P w base (fun _=>true) held n e ds=some y->g e y.1->∃z:den τ,VL (Om0 w) (cells τ z) ds/\Q z)
 (hsp:∀a len cap,cs=[.slice (some a) len cap]->a.spot=none):∃(l:List (den τ))(v:Value),cs=[v]/\V (Om0 w) (.lst τ l none) v/\(16<=P.bytesOf e->l.length<=N)/\∀z∈l,Q z:=by
 rcases Pr ht h with⟨rfl,_⟩|⟨a,len,cap,elems,rest,n,hfu,rfl,hx,_,hlc,hcm,hlen,hels,_,_⟩
 ·exact⟨[],_,rfl,.lstNil τ none (fun id hid=>by cases hid),fun _=>MZ _,fun z hz=>by cases hz⟩
 ·have hs:=hsp a len cap rfl;obtain⟨bl,off,spot⟩:=a;simp only at hs;subst hs
  have each:∀i,i<len->∃z:den τ,∃ds:List Value,ds.length=ab τ/\(∀j,j<ab τ->w.cell? ⟨bl,off+(i *ab τ+j),none⟩=ds[j]?)/\VL (Om0 w) (cells τ z) ds/\Q z:=by
   intro i hi;have h1:=hels i hi;obtain⟨y,hy⟩:∃y,elems[i]?=some y:=⟨_,MN (by omega)⟩;rw[hy,hc,O4]at h1;obtain⟨ds,hd,hy'⟩:=h1;obtain⟨_,hdl,hdc⟩:=PH hd
   obtain⟨z,hz,hq⟩:=hel n ds y hfu hy' (by
    rw[hx]at hg;exact hb.el _ _ _ _ ht hg _ (List.mem_map_of_mem (Nb hy)))
   refine⟨z,ds,hdl,fun j hj=>?_,hz,hq⟩;have:=hdc j hj
   have ha:∀(o n:Nat),(⟨bl,o,none⟩:Addr).add n=⟨bl,o+n,none⟩:=by
    intro o n;unfold Addr.add;by_cases h0:n=0
    ·subst h0;rfl
    ·rw[MP h0]
   rw[ha,ha,Oy]at this;exact this
  have hz:∃l:List (den τ),l.length=len/\∀i z,l[i]?=some z->∃ds:List Value,ds.length=ab τ/\(∀j,j<ab τ->w.cell? ⟨bl,off+(i *ab τ+j),none⟩=ds[j]?)/\VL (Om0 w) (cells τ z) ds/\Q z:=by
   refine⟨(List.range len).attach.map fun i=>(each i.1 (On.1 i.2)).choose,by simp,fun i z hi=>?_⟩;have hil:i<len:=by have:=(Ns.1 hi).1;simpa using this
   simp only[Nj,MY]at hi;obtain⟨⟨k,hk⟩,h1,h2⟩:=hi;have hki:k=i:=by have:=Ns.1 h1;obtain⟨_,e⟩:=this;have:=Ou Subtype.val e;simpa using this.symm
   subst hki;rw[<-h2];exact(each k (On.1 hk)).choose_spec
  obtain⟨l,hll,hle⟩:=hz;have hQ:∀z∈l,Q z:=fun z hz=>by obtain⟨i,hi⟩:=Ox hz;obtain⟨_,_,_,_,hq⟩:=hle i z hi;exact hq
  have hL:16<=P.bytesOf e->l.length<=N:=fun h16=>by
   rw[hx]at hg;rw[hll,<-hlen];have:=hb.len _ _ _ _ ht hg h16
   rwa [NP]at this
  refine⟨l,_,rfl,?_,hL,hQ⟩;have key:=V.lst (Ω:=Om0 w) τ l none bl off cap (fun i j=>(w.cell? ⟨bl,off+(i *ab τ+j),none⟩).getD undef) (by omega) (by unfold maxLen at hcm;unfold aX;omega) (fun id hid=>by cases hid) (fun i z hz j c hj=>?_) (fun i z hz j c hj=>?_)
  ·rw[hll]at key;exact key
  ·obtain⟨ds,d1,d2,d3,_⟩:=hle i z hz;have hjw:j<ab τ:=by rw[<-aJ τ z];exact(Ns.1 hj).1
   have hv:w.cell? ⟨bl,off+(i *ab τ+j),none⟩=some ds[j]:=by rw[d2 j hjw];exact MN (by omega)
   refine⟨⟨_,hv⟩,?_⟩;show w.cell? _=_;rw[hv];rfl
  ·obtain⟨ds,d1,d2,d3,_⟩:=hle i z hz;have hjw:j<ab τ:=by rw[<-aJ τ z];exact(Ns.1 hj).1
   have hd:ds[j]?=some ds[j]:=MN (by omega);rw[d2 j hjw,hd];exact d3.2 j c ds[j] hj hd
theorem xn{N M:Nat}{g:TypeId->DataW H->Prop}(hb:GoodR P N M g){t e:TypeId}{τ:Ty}{Q:den τ->Prop}{fuel:Nat}{cs:List Value}{x:DataW H×List MemPlace}(ht:P.underlying t=some (.slice e))(hc:P.cellsOf e=ab τ)(hw:0<ab τ)
 (h:DataW.trod enc P w base (fun _=>true) held fuel t cs=some x)(hg:g t x.1)
 (hel:∀(n:Nat)(ds:List Value)(y:DataW H×List MemPlace),fuel=n+1->DataW.trod enc P w base (fun _=>true) held n e ds=some y->g e y.1->∃z:den τ,VL (Om0 w) (cells τ z) ds/\Q z) :
  ∃(l:List (den τ))(v:Value),cs=[v]/\V (Om0 w) (.lst τ l none) v/\(16<=P.bytesOf e->l.length<=N)/\∀z∈l,Q z:=by
 have h0:=h;rcases Pr ht h with⟨rfl,_⟩|⟨a,len,cap,elems,rest,n,hfu,rfl,_,_,hlc,hcm,hlen,hels,hrest,_⟩
 ·exact⟨[],_,rfl,.lstNil τ none (fun id hid=>by cases hid),fun _=>MZ _,fun z hz=>by cases hz⟩
 ·by_cases hcap:cap=0
  ·have:len=0:=by omega
   subst hcap this;exact⟨[],_,rfl,.lstVoid τ a,fun _=>MZ _,fun z hz=>by cases hz⟩
  ·refine Jb hb ht hc h0 hg hel fun a' len' cap' e'=>?_;simp only[NZ,O0,Xs,NN]at e';obtain⟨rfl,rfl,rfl⟩:=e'
   have hr:∃(ad:Addr)(y:DataW H×List MemPlace),ad=a/\(w.cells? base ad (P.cellsOf e)).bind (DataW.trod enc P w base (fun _=>true) held n e)=some y:=by
    by_cases hl:len=0
    ·obtain⟨r1,r2⟩:=hrest rfl;have:=r2 0 (by omega);rw[hl]at this;refine⟨_,_,?_,this.trans (MN (by omega))⟩;simp[Addr.add]
    ·have:=hels 0 (by omega);refine⟨_,_,?_,this.trans (MN (by omega))⟩;simp[Addr.add]
   obtain⟨ad,y,rfl,hy⟩:=hr;rw[O4]at hy;obtain⟨ds,hd,_⟩:=hy;obtain⟨_,hdl,hdc⟩:=PH hd;have:=hdc 0 (by rw[hc];exact hw);have ha:ad.add 0=ad:=by simp[Addr.add]
   rw[ha,MN (by rw[hdl,hc];exact hw)]at this;unfold World.cell? at this;split at this
   ·split at this
    ·cases this
    ·rename_i hs;cases hsp:ad.spot
     ·rfl
     ·rw[hsp]at hs;exact absurd rfl hs
   ·cases this
theorem oD{N M:Nat}{g:TypeId->DataW H->Prop}(hb:GoodR P N M g){sp:Nat->Bool}{t:TypeId}{fs:Array Field}{fuel:Nat}{cs:List Value}{x:DataW H×List MemPlace}(ht:P.underlying t=some (.struct fs))(h:DataW.trod enc P w base sp held fuel t cs=some x)(hg:g t x.1) :
  ∃n,fuel=n+1/\cs.length=P.cellsOf t/\∀(i:Nat)(f:Field),fs[i]?=some f->∃y,DataW.trod enc P w base sp held n f.type ((cs.drop f.offset).take (P.cellsOf f.type))=some y/\g f.type y.1:=by
 obtain⟨xs,n,hn,hx,hl,hs,hf⟩:=DataW.trod_struct ht h;refine⟨n,hn,hl,fun i f hif=>?_⟩
 have hi:i<xs.length:=by
  rw[hs];rcases MV i fs.size with k|k
  ·exact k
  ·rw[Nz k]at hif;cases hif
 refine⟨xs[i],by rw[hf i f hif];exact MN hi,?_⟩;rw[hx]at hg;exact hb.part _ _ _ ht hg i f _ hif (by rw[Nj,MN hi];rfl)
theorem M8{N M:Nat}{g:TypeId->DataW H->Prop}(hb:GoodR P N M g){sp:Nat->Bool}{t:TypeId}{fuel:Nat}{cs:List Value}{x:DataW H×List MemPlace}(ht:P.underlying t=some .string)(h:DataW.trod enc P w base sp held fuel t cs=some x)(hg:g t x.1) :
  ∃(s:Str)(v:Value),cs=[v]/\V (Om0 w) (.str s) v/\s.length<=M:=by
 obtain⟨s,rfl,hx,hw⟩:=DataW.trod_string ht h;refine⟨s.data.toList,_,rfl,?_,by rw[hx]at hg;exact hb.str _ _ ht hg⟩;have e:s=⟨s.data.toList.toArray⟩:=by cases s;simp
 have hl:s.data.toList.length<=aX:=by have:s.data.size=s.size:=rfl;unfold maxLen at hw;unfold aX;simp only[Oh,this];omega
 have:=V.str (Ω:=Om0 w) s.data.toList hl;rw[<-e]at this;exact this
structure TermAt(P:Program)(t:TypeId):Prop where
 ex:∃(f0 f1 f2 f3 f4 f5 f6 f7 f8:Field)(e g:TypeId),P.underlying t=some (.struct #[f0,f1,f2,f3,f4,f5,f6,f7,f8])/\P.cellsOf t=9/\
  (f0.offset=0/\f1.offset=1/\f2.offset=2/\f3.offset=3/\f4.offset=4/\f5.offset=5/\f6.offset=6/\f7.offset=7/\f8.offset=8)/\
  (P.cellsOf f0.type=1/\P.cellsOf f1.type=1/\P.cellsOf f2.type=1/\P.cellsOf f3.type=1/\P.cellsOf f4.type=1/\P.cellsOf f5.type=1/\P.cellsOf f6.type=1/\P.cellsOf f7.type=1/\P.cellsOf f8.type=1)/\
  (P.underlying f0.type=some (.int .i64)/\P.underlying f1.type=some .string/\P.underlying f2.type=some .string/\P.underlying f3.type=some (.int .i64)/\P.underlying f4.type=some (.slice e)/\P.underlying f5.type=some (.slice e)/\
   P.underlying f6.type=some (.slice g)/\P.underlying f7.type=some (.slice t)/\P.underlying f8.type=some (.int .i64))/\(P.underlying e=some .string/\P.cellsOf e=1/\P.bytesOf e=16)/\ShapeAt P g
def iK(N M:Nat)(x:Trm):Bool:=decide (x.names.length<=N)&&decide (x.name.length<=M)
theorem M9{N M:Nat}{g:TypeId->DataW H->Prop}(hb:GoodR P N M g){t:TypeId}(hs:TermAt P t):∀(fuel:Nat)(cs:List Value)(x:DataW H×List MemPlace),DataW.trod enc P w base (fun _=>true) held fuel t cs=some x->g t x.1->
  ∃s:Trm,VL (Om0 w) (cells (.st .term) s) cs/\Pd.allT (iK N M) s=true:=by
 obtain⟨f0,f1,f2,f3,f4,f5,f6,f7,f8,e,e6,ht,hc,⟨o0,o1,o2,o3,o4,o5,o6,o7,o8⟩,⟨c0,c1,c2,c3,c4,c5,c6,c7,c8⟩,⟨u0,u1,u2,u3,u4,u5,u6,u7,u8⟩,⟨us,ce,b16⟩,hg⟩:=hs;have cg:P.cellsOf e6=ab (.st .shape):=by obtain⟨_,_,_,_,_,_,_,hc,_⟩:=hg;rw[hc];rfl
 intro fuel
 induction fuel using Nat.strongRecOn with
 |_ fuel ih=>
 intro cs x h hN;obtain⟨n,hn,hl,hf⟩:=oD hb ht h hN;rw[hc]at hl;obtain⟨y0,h0,_⟩:=hf 0 f0 rfl;obtain⟨y1,h1,_⟩:=hf 1 f1 rfl;obtain⟨y2,h2,b2⟩:=hf 2 f2 rfl;obtain⟨y3,h3,_⟩:=hf 3 f3 rfl;obtain⟨y4,h4,b4⟩:=hf 4 f4 rfl;obtain⟨y5,h5,_⟩:=hf 5 f5 rfl;obtain⟨y6,h6,_⟩:=hf 6 f6 rfl;obtain⟨y7,h7,b7⟩:=hf 7 f7 rfl;obtain⟨y8,h8,_⟩:=hf 8 f8 rfl
 match cs,hl with
 |[a0,a1,a2,a3,a4,a5,a6,a7,a8],_=>
  rw[o0,c0]at h0;rw[o1,c1]at h1;rw[o2,c2]at h2;rw[o3,c3]at h3;rw[o4,c4]at h4;rw[o5,c5]at h5;rw[o6,c6]at h6;rw[o7,c7]at h7;rw[o8,c8]at h8;simp only[Ol,Oa,NS,OF]at h0 h1 h2 h3 h4 h5 h6 h7 h8;obtain⟨k,e0,v0⟩:=kK u0 h0;obtain⟨p,w1,e1,v1⟩:=mX u1 h1;obtain⟨m,w2,e2,v2,l2⟩:=M8 hb u2 h2 b2;obtain⟨z,e3,v3⟩:=kK u3 h3;have strs:∀(n:Nat)(ds:List Value)(y:DataW H×List MemPlace),DataW.trod enc P w base (fun _=>true) held n e ds=some y->∃z:den .str,VL (Om0 w) (cells .str z) ds:=fun n ds y hy=>by obtain⟨s,v,rfl,hv⟩:=mX us hy;exact⟨s,VL.cons hv .nil⟩
  obtain⟨ns,w4,e4,v4,l4,_⟩:=xn (τ:=.str) (Q:=fun _=>True) hb u4 ce (by decide) h4 b4 (fun n ds y _ hy _=>by obtain⟨z,hz⟩:=strs n ds y hy;exact⟨z,hz,trivial⟩);obtain⟨vs,w5,e5,v5⟩:=nF (τ:=.str) u5 ce (by decide) h5 (fun n ds y _ hy=>strs n ds y hy);obtain⟨ss,w6,e6,v6⟩:=nF (τ:=.st .shape) u6 cg (by decide) h6 (fun n ds y _ hy=>E5 hg n ds y hy);obtain⟨ps,w7,e7,v7,_,q7⟩:=xn (τ:=.st .term) (Q:=fun s=>Pd.allT (iK N M) s=true) hb u7 (by rw[hc];rfl) (by decide) h7 b7 (fun k ds y hk hy hle=>ih k (by omega) ds y hy hle);obtain⟨at_,e8,v8⟩:=kK u8 h8;simp only[NZ,NN]at e0 e1 e2 e3 e4 e5 e6 e7 e8;subst e0 e1 e2 e3 e4 e5 e6 e7 e8;refine⟨⟨k,p,m,z,ns,vs,ss,ps,at_⟩,VL.cons v0 (VL.cons v1 (VL.cons v2 (VL.cons v3 (VL.cons v4 (VL.cons v5 (VL.cons v6 (VL.cons v7 (VL.cons v8 .nil)))))))),?_⟩;rw[Pd.allT_eq,MO,Pd.allTL_all,N2];refine⟨?_,q7⟩;unfold iK;rw[Xd (show ns.length<=N from l4 (Nat.le_of_eq b16.symm)),Xd (show m.length<=M from l2)];rfl
end Go.AL
end
noncomputable section
namespace Go.AL
open Go.ChangeShapes Go.WideShapes Go.RowKit
variable [Tabs]
theorem VL.app{Ω:Om}{xs bs:List AV}{cs ds:List Value}(h:VL Ω xs cs)(k:VL Ω bs ds):VL Ω (xs++bs) (cs++ds):=by
 induction xs generalizing cs with
 |nil=>have:cs=[]:=N1 h.1.symm;subst this;exact k
 |cons a xs ih=>
  match cs,h with
  |c::cs,h=>exact VL.cons (h.2 0 a c rfl rfl) (ih ⟨by have:=h.1;simpa using this,fun j x y hx hy=>h.2 (j+1) x y hx hy⟩)
variable {H:Type} {enc:TypeId×Value->H} {P:Program} {w:World} {base:Nat} {held:Bool}
theorem Ga{N M:Nat}{g:TypeId->DataW H->Prop}(hb:GoodR P N M g){t e:TypeId}{τ:Ty}{l:List (den τ)}{v:Value}{fuel:Nat}{x:DataW H×List MemPlace}(ht:P.underlying t=some (.slice e))(h16:16<=P.bytesOf e)
 (h:DataW.trod enc P w base (fun _=>true) held fuel t [v]=some x)(hg:g t x.1)(hv:V (Om0 w) (.lst τ l none) v):l.length<=N:=by
 rcases hv.lst_inv with⟨rfl,_⟩|⟨rfl,_⟩|⟨b,off,cap,vals,rfl,_⟩
 ·exact MZ _
 ·exact MZ _
 ·rcases Pr ht h with⟨hc,_⟩|⟨a,len,cap',elems,rest,n,hfu,hcs,hx,_,hlc,hcm,hlen,hels,_,_⟩
  ·simp at hc
  ·simp only[NZ,O0,NN]at hcs;rw[hx]at hg;have:=hb.len _ _ _ _ ht hg h16;rw[NP]at this;omega
theorem dY{N M:Nat}{g:TypeId->DataW H->Prop}(hb:GoodR P N M g){t e:TypeId}{fs:Array Field}{i:Nat}{f:Field}{τ:Ty}{l:List (den τ)}{as':List AV}{cs:List Value}{fuel:Nat}{x:DataW H×List MemPlace}(ht:P.underlying t=some (.struct fs))(hi:fs[i]?=some f)
 (h1:P.cellsOf f.type=1)(hf:P.underlying f.type=some (.slice e))(h16:16<=P.bytesOf e)(h:DataW.trod enc P w base (fun _=>true) held fuel t cs=some x)(hg:g t x.1)(hv:VL (Om0 w) as' cs)(hc:as'[f.offset]?=some (.lst τ l none)):l.length<=N:=by
 obtain⟨n,hn,hl,hfs⟩:=oD hb ht h hg;obtain⟨y,hy,gy⟩:=hfs i f hi;have hlt:f.offset<cs.length:=by rw[<-hv.1];exact(Ns.1 hc).1
 have e1:(cs.drop f.offset).take 1=[cs[f.offset]]:=by rw[OP hlt];rfl
 rw[h1,e1]at hy;exact Ga hb hf h16 hy gy (hv.2 f.offset _ _ hc (MN hlt))
structure VersAt(P:Program)(t:TypeId):Prop where
 ex:∃(f0 f1 f2 f3:Field),P.underlying t=some (.struct #[f0,f1,f2,f3])/\P.cellsOf t=4/\(f0.offset=0/\f1.offset=1/\f2.offset=2/\f3.offset=3)/\
  (P.cellsOf f0.type=1/\P.cellsOf f1.type=1/\P.cellsOf f2.type=1/\P.cellsOf f3.type=1)/\P.underlying f0.type=some (.int .i64)/\P.underlying f1.type=some (.int .i64)/\P.underlying f2.type=some (.int .i64)/\P.underlying f3.type=some .string
theorem Jc{t:TypeId}(hs:VersAt P t)(fuel:Nat)(cs:List Value)(x:DataW H×List MemPlace)(h:DataW.trod enc P w base (fun _=>true) held fuel t cs=some x):∃s:Vers,VL (Om0 w) (cells (.st .version) s) cs:=by
 obtain⟨f0,f1,f2,f3,ht,hc,⟨o0,o1,o2,o3⟩,⟨c0,c1,c2,c3⟩,u0,u1,u2,u3⟩:=hs;obtain⟨n,hn,hl,hf⟩:=qP ht h;rw[hc]at hl;obtain⟨y0,h0⟩:=hf 0 f0 rfl;obtain⟨y1,h1⟩:=hf 1 f1 rfl;obtain⟨y2,h2⟩:=hf 2 f2 rfl;obtain⟨y3,h3⟩:=hf 3 f3 rfl
 match cs,hl with
 |[a0,a1,a2,a3],_=>rw[o0,c0]at h0;rw[o1,c1]at h1;rw[o2,c2]at h2;rw[o3,c3]at h3;simp only[Ol,Oa,NS,OF]at h0 h1 h2 h3;obtain⟨k0,e0,v0⟩:=kK u0 h0;obtain⟨k1,e1,v1⟩:=kK u1 h1;obtain⟨k2,e2,v2⟩:=kK u2 h2;obtain⟨k3,v',e3,v3⟩:=mX u3 h3;simp only[NZ,NN]at e0 e1 e2 e3;subst e0 e1 e2 e3;exact⟨⟨k0,k1,k2,k3⟩,VL.cons v0 (VL.cons v1 (VL.cons v2 (VL.cons v3 .nil)))⟩
structure BndAt(P:Program)(t:TypeId):Prop where
 ex:∃(f0 f1:Field),P.underlying t=some (.struct #[f0,f1])/\P.cellsOf t=5/\(f0.offset=0/\f1.offset=1)/\(P.cellsOf f0.type=1/\P.cellsOf f1.type=4)/\P.underlying f0.type=some (.int .i64)/\VersAt P f1.type
theorem ME{t:TypeId}(hs:BndAt P t)(fuel:Nat)(cs:List Value)(x:DataW H×List MemPlace)(h:DataW.trod enc P w base (fun _=>true) held fuel t cs=some x):∃s:Bnd,VL (Om0 w) (cells (.st .bound) s) cs:=by
 obtain⟨f0,f1,ht,hc,⟨o0,o1⟩,⟨c0,c1⟩,u0,u1⟩:=hs;obtain⟨n,hn,hl,hf⟩:=qP ht h;rw[hc]at hl;obtain⟨y0,h0⟩:=hf 0 f0 rfl;obtain⟨y1,h1⟩:=hf 1 f1 rfl
 match cs,hl with
 |[a0,a1,a2,a3,a4],_=>rw[o0,c0]at h0;rw[o1,c1]at h1;simp only[Ol,Oa,NS,OF]at h0 h1;obtain⟨k0,e0,v0⟩:=kK u0 h0;obtain⟨s,v1⟩:=Jc u1 _ _ _ h1;simp only[NZ,NN]at e0;subst e0;exact⟨⟨k0,s⟩,VL.cons v0 (VL.app v1 .nil)⟩
structure ImpAt(P:Program)(t:TypeId):Prop where
 ex:∃(f0 f1 f2 f3:Field)(e:TypeId),P.underlying t=some (.struct #[f0,f1,f2,f3])/\P.cellsOf t=7/\(f0.offset=0/\f1.offset=1/\f2.offset=5/\f3.offset=6)/\
  (P.cellsOf f0.type=1/\P.cellsOf f1.type=4/\P.cellsOf f2.type=1/\P.cellsOf f3.type=1)/\P.underlying f0.type=some .string/\VersAt P f1.type/\P.underlying f2.type=some (.slice e)/\P.underlying f3.type=some (.int .i64)/\BndAt P e
theorem MF{t:TypeId}(hs:ImpAt P t)(fuel:Nat)(cs:List Value)(x:DataW H×List MemPlace)(h:DataW.trod enc P w base (fun _=>true) held fuel t cs=some x):∃s:Impt,VL (Om0 w) (cells (.st .imp) s) cs:=by
 obtain⟨f0,f1,f2,f3,e,ht,hc,⟨o0,o1,o2,o3⟩,⟨c0,c1,c2,c3⟩,u0,u1,u2,u3,hb⟩:=hs;obtain⟨n,hn,hl,hf⟩:=qP ht h;rw[hc]at hl;obtain⟨y0,h0⟩:=hf 0 f0 rfl;obtain⟨y1,h1⟩:=hf 1 f1 rfl;obtain⟨y2,h2⟩:=hf 2 f2 rfl;obtain⟨y3,h3⟩:=hf 3 f3 rfl;have hw:P.cellsOf e=ab (.st .bound):=by obtain⟨_,_,_,hc,_⟩:=hb;rw[hc];rfl
 match cs,hl with
 |[a0,a1,a2,a3,a4,a5,a6],_=>rw[o0,c0]at h0;rw[o1,c1]at h1;rw[o2,c2]at h2;rw[o3,c3]at h3;simp only[Ol,Oa,NS,OF]at h0 h1 h2 h3;obtain⟨k0,v',e0,v0⟩:=mX u0 h0;obtain⟨s,v1⟩:=Jc u1 _ _ _ h1;obtain⟨l,w2,e2,v2⟩:=nF (τ:=.st .bound) u2 hw (by decide) h2 (fun n ds y _ hy=>ME hb n ds y hy);obtain⟨k3,e3,v3⟩:=kK u3 h3;simp only[NZ,NN]at e0 e2 e3;subst e0 e2 e3;exact⟨⟨k0,s,l,k3⟩,VL.cons v0 (VL.app v1 (VL.cons v2 (VL.cons v3 .nil)))⟩
def vA(N:Nat)(s:Dcl):Prop:=s.shape.names.length<=N/\s.shape.parts.length<=N/\s.term.names.length<=N/\s.term.vars.length<=N/\s.term.shapes.length<=N/\s.term.parts.length<=N
def lR(P:Program)(t:TypeId):Prop:=∀(fs:Array Field)(i:Nat)(f:Field)(e:TypeId),P.underlying t=some (.struct fs)->fs[i]?=some f->P.underlying f.type=some (.slice e)->16<=P.bytesOf e
theorem Ao{N M:Nat}{g:TypeId->DataW H->Prop}(hb:GoodR P N M g){t:TypeId}(hs:ShapeAt P t)(hw:lR P t){fuel:Nat}{cs:List Value}{x:DataW H×List MemPlace}{s:Shape}(h:DataW.trod enc P w base (fun _=>true) held fuel t cs=some x)(hg:g t x.1)
 (hv:VL (Om0 w) (cells (.st .shape) s) cs):s.names.length<=N/\s.parts.length<=N:=by
 obtain⟨f0,f1,f2,f3,f4,e,ht,hc,⟨o0,o1,o2,o3,o4⟩,⟨c0,c1,c2,c3,c4⟩,u0,u1,u2,u3,us,ce,u4⟩:=hs;exact⟨dY (i:=3) (f:=f3) (τ:=.str) hb ht rfl c3 u3 (hw _ 3 f3 _ ht rfl u3) h hg hv (by rw[o3];rfl),dY (i:=4) (f:=f4) (τ:=.st .shape) hb ht rfl c4 u4 (hw _ 4 f4 _ ht rfl u4) h hg hv (by rw[o4];rfl)⟩
theorem D5{N M:Nat}{g:TypeId->DataW H->Prop}(hb:GoodR P N M g){t:TypeId}(hs:TermAt P t)(hw:lR P t){fuel:Nat}{cs:List Value}{x:DataW H×List MemPlace}{s:Trm}(h:DataW.trod enc P w base (fun _=>true) held fuel t cs=some x)(hg:g t x.1)
 (hv:VL (Om0 w) (cells (.st .term) s) cs):s.names.length<=N/\s.vars.length<=N/\s.shapes.length<=N/\s.parts.length<=N:=by
 obtain⟨f0,f1,f2,f3,f4,f5,f6,f7,f8,e,e6,ht,hc,⟨o0,o1,o2,o3,o4,o5,o6,o7,o8⟩,⟨c0,c1,c2,c3,c4,c5,c6,c7,c8⟩,⟨u0,u1,u2,u3,u4,u5,u6,u7,u8⟩,⟨us,ce,b16⟩,hg'⟩:=hs
 exact⟨dY (i:=4) (f:=f4) (τ:=.str) hb ht rfl c4 u4 (hw _ 4 f4 _ ht rfl u4) h hg hv (by rw[o4];rfl),dY (i:=5) (f:=f5) (τ:=.str) hb ht rfl c5 u5 (hw _ 5 f5 _ ht rfl u5) h hg hv (by rw[o5];rfl),
  dY (i:=6) (f:=f6) (τ:=.st .shape) hb ht rfl c6 u6 (hw _ 6 f6 _ ht rfl u6) h hg hv (by rw[o6];rfl),dY (i:=7) (f:=f7) (τ:=.st .term) hb ht rfl c7 u7 (hw _ 7 f7 _ ht rfl u7) h hg hv (by rw[o7];rfl)⟩
structure DclAt(P:Program)(t:TypeId):Prop where
 ex:∃(f0 f1 f2 f3 f4:Field),P.underlying t=some (.struct #[f0,f1,f2,f3,f4])/\P.cellsOf t=17/\(f0.offset=0/\f1.offset=1/\f2.offset=2/\f3.offset=7/\f4.offset=16)/\
  (P.cellsOf f0.type=1/\P.cellsOf f1.type=1/\P.cellsOf f2.type=5/\P.cellsOf f3.type=9/\P.cellsOf f4.type=1)/\P.underlying f0.type=some (.int .i64)/\P.underlying f1.type=some .string/\(ShapeAt P f2.type/\lR P f2.type)/\(TermAt P f3.type/\lR P f3.type)/\P.underlying f4.type=some (.int .i64)
theorem MG{N M:Nat}{g:TypeId->DataW H->Prop}(hb:GoodR P N M g){t:TypeId}(hs:DclAt P t)(fuel:Nat)(cs:List Value)(x:DataW H×List MemPlace)(h:DataW.trod enc P w base (fun _=>true) held fuel t cs=some x)(hg:g t x.1) :
  ∃s:Dcl,VL (Om0 w) (cells (.st .decl) s) cs/\Pd.allT (iK N M) s.term=true/\vA N s:=by
 obtain⟨f0,f1,f2,f3,f4,ht,hc,⟨o0,o1,o2,o3,o4⟩,⟨c0,c1,c2,c3,c4⟩,u0,u1,⟨u2,q2⟩,⟨u3,q3⟩,u4⟩:=hs;obtain⟨n,hn,hl,hf⟩:=oD hb ht h hg;rw[hc]at hl;obtain⟨y0,h0,_⟩:=hf 0 f0 rfl;obtain⟨y1,h1,_⟩:=hf 1 f1 rfl;obtain⟨y2,h2,b2⟩:=hf 2 f2 rfl;obtain⟨y3,h3,b3⟩:=hf 3 f3 rfl;obtain⟨y4,h4,_⟩:=hf 4 f4 rfl
 match cs,hl with
 |[a0,a1,a2,a3,a4,a5,a6,a7,a8,a9,a10,a11,a12,a13,a14,a15,a16],_=>rw[o0,c0]at h0;rw[o1,c1]at h1;rw[o2,c2]at h2;rw[o3,c3]at h3;rw[o4,c4]at h4;simp only[Ol,Oa,NS,OF]at h0 h1 h2 h3 h4;obtain⟨k0,e0,v0⟩:=kK u0 h0;obtain⟨k1,v',e1,v1⟩:=mX u1 h1;obtain⟨s,v2⟩:=E5 u2 _ _ _ h2;obtain⟨m,v3,q⟩:=M9 hb u3 _ _ _ h3 b3;obtain⟨l1,l2⟩:=Ao hb u2 q2 h2 b2 v2;obtain⟨l3,l4,l5,l6⟩:=D5 hb u3 q3 h3 b3 v3;obtain⟨k4,e4,v4⟩:=kK u4 h4;simp only[NZ,NN]at e0 e1 e4;subst e0 e1 e4;exact⟨⟨k0,k1,s,m,k4⟩,VL.cons v0 (VL.cons v1 (VL.app v2 (VL.app v3 (VL.cons v4 .nil)))),q,l1,l2,l3,l4,l5,l6⟩
structure ModuAt(P:Program)(t:TypeId):Prop where
 ex:∃(f0 f1 f2 f3 f4:Field)(e1 e2 e3:TypeId),P.underlying t=some (.struct #[f0,f1,f2,f3,f4])/\P.cellsOf t=5/\(f0.offset=0/\f1.offset=1/\f2.offset=2/\f3.offset=3/\f4.offset=4)/\
  (P.cellsOf f0.type=1/\P.cellsOf f1.type=1/\P.cellsOf f2.type=1/\P.cellsOf f3.type=1/\P.cellsOf f4.type=1)/\P.underlying f0.type=some .string/\P.underlying f1.type=some (.slice e1)/\P.underlying f2.type=some (.slice e2)/\
  P.underlying f3.type=some (.slice e3)/\P.underlying f4.type=some (.int .i64)/\ImpAt P e1/\DclAt P e2/\P.underlying e3=some .string/\P.cellsOf e3=1
theorem Ma{N M:Nat}{g:TypeId->DataW H->Prop}(hb:GoodR P N M g){t:TypeId}(hs:ModuAt P t)(fuel:Nat)(cs:List Value)(x:DataW H×List MemPlace)(h:DataW.trod enc P w base (fun _=>true) held fuel t cs=some x)(hg:g t x.1) :
  ∃s:Modu,VL (Om0 w) (cells (.st .modu) s) cs/\∀d∈s.decls,Pd.allT (iK N M) d.term=true/\vA N d:=by
 obtain⟨f0,f1,f2,f3,f4,e1,e2,e3,ht,hc,⟨o0,o1,o2,o3,o4⟩,⟨c0,c1,c2,c3,c4⟩,u0,u1,u2,u3,u4,hi,hd,us,cs3⟩:=hs;obtain⟨n,hn,hl,hf⟩:=oD hb ht h hg;rw[hc]at hl;obtain⟨y0,h0,_⟩:=hf 0 f0 rfl;obtain⟨y1,h1,_⟩:=hf 1 f1 rfl;obtain⟨y2,h2,b2⟩:=hf 2 f2 rfl;obtain⟨y3,h3,_⟩:=hf 3 f3 rfl;obtain⟨y4,h4,_⟩:=hf 4 f4 rfl;have w1:P.cellsOf e1=ab (.st .imp):=by obtain⟨_,_,_,_,_,_,hc,_⟩:=hi;rw[hc];rfl
 have w2:P.cellsOf e2=ab (.st .decl):=by obtain⟨_,_,_,_,_,_,hc,_⟩:=hd;rw[hc];rfl
 match cs,hl with
 |[a0,a1,a2,a3,a4],_=>rw[o0,c0]at h0;rw[o1,c1]at h1;rw[o2,c2]at h2;rw[o3,c3]at h3;rw[o4,c4]at h4;simp only[Ol,Oa,NS,OF]at h0 h1 h2 h3 h4;obtain⟨k0,v',e0,v0⟩:=mX u0 h0;obtain⟨li,x1,g1,v1⟩:=nF (τ:=.st .imp) u1 w1 (by decide) h1 (fun n ds y _ hy=>MF hi n ds y hy);obtain⟨ld,x2,g2,v2,_,q⟩:=xn (τ:=.st .decl) (Q:=fun d:Dcl=>Pd.allT (iK N M) d.term=true/\vA N d) hb u2 w2 (by decide) h2 b2 (fun n ds y _ hy hq=>MG hb hd n ds y hy hq);obtain⟨le,x3,g3,v3⟩:=nF (τ:=.str) u3 cs3 (by decide) h3 (fun n ds y _ hy=>by obtain⟨s,hv,e,hs⟩:=mX us hy;subst e;exact⟨s,VL.cons hs .nil⟩);obtain⟨k4,g4,v4⟩:=kK u4 h4;simp only[NZ,NN]at e0 g1 g2 g3 g4;subst e0 g1 g2 g3 g4;exact⟨⟨k0,li,ld,le,k4⟩,VL.cons v0 (VL.cons v1 (VL.cons v2 (VL.cons v3 (VL.cons v4 .nil)))),q⟩
end Go.AL
end
section
namespace Go.AL
open Go Go.Proofs
section
variable {H:Type} {enc:TypeId×Value->H} {P:Program} {w:World} {base:Nat} {held:Bool} [Tabs]
theorem D6{N M:Nat}{g:TypeId->DataW H->Prop}(hb:GoodR P N M g){t:TypeId}(hs:ModuAt P t)(hw:lR P t){fuel:Nat}{cs:List Value}{x:DataW H×List MemPlace}{s:Modu}(h:DataW.trod enc P w base (fun _=>true) held fuel t cs=some x)(hg:g t x.1)
 (hv:VL (Om0 w) (cells (.st .modu) s) cs):s.imports.length<=N:=by
 obtain⟨f0,f1,f2,f3,f4,e1,e2,e3,ht,hc,⟨o0,o1,o2,o3,o4⟩,⟨c0,c1,c2,c3,c4⟩,u0,u1,u2,u3,u4,hi,hd,us,cs3⟩:=hs;exact dY (i:=1) (f:=f1) (τ:=.st .imp) hb ht rfl c1 u1 (hw _ 1 f1 _ ht rfl u1) h hg hv (by rw[o1];rfl)
end
end Go.AL
end
section
namespace Go.AL
open Go Go.Proofs
section
variable {H:Type} {enc:TypeId×Value->H} {P:Program} {w:World} {base:Nat} {held:Bool} [Tabs]
theorem KK{N M:Nat}{g:TypeId->DataW H->Prop}(hb:GoodR P N M g){t e:TypeId}(ht:P.underlying t=some (.slice e))(hs:ModuAt P e)(hw:lR P e){r:Reach}{b0:Nat}{v:Value}{d:DataW H}{ps:List MemPlace}(hv:Value.okWide P w r b0 t v)
 (h:DataW.Trod enc P w base (fun _=>true) held t v d ps)(hg:g t d):∃l:List Modu,V (Om0 w) (.lst (.st .modu) l none) v/\∀m∈l,(∀d∈m.decls,Pd.allT (iK N M) d.term=true/\vA N d)/\m.imports.length<=N:=by
 obtain⟨fu,h⟩:=h
 obtain⟨l,u,e',hl,_,hq⟩:=Jb (τ:=.st .modu) (Q:=fun m:Modu=>(∀d∈m.decls,Pd.allT (iK N M) d.term=true/\vA N d)/\m.imports.length<=N) hb ht (by obtain⟨_,_,_,_,_,_,_,_,_,hc,_⟩:=hs;rw[hc];rfl) h hg (fun n ds y _ hy hq=>by
  obtain⟨s,hs',q⟩:=Ma hb hs _ _ _ hy hq;exact⟨s,hs',q,D6 hb hs hw hy hq hs'⟩) (J8 ht hv)
 rw[KG ht hv]at e';simp only[NZ,NN]at e';subst e';exact⟨l,hl,hq⟩
end
end Go.AL
end
section
namespace Go.Proofs.YtalkpiobgooadaaGreatDoor.Join
open Go.AL Go.AL.Seat Go.Pd Go.ChangeShapes Go.WideShapes Go.RowKit Go.Lib Go.Shelf
set_option maxRecDepth 1000000
theorem E6:ShapeAt Tryz.prog 48:=⟨_,_,_,_,_,9,Tryz.underlying48,by kernel_rfl,⟨rfl,rfl,rfl,rfl,rfl⟩,⟨by kernel_rfl,by kernel_rfl,by kernel_rfl,by kernel_rfl,by kernel_rfl⟩,by kernel_rfl,by kernel_rfl,by kernel_rfl,by kernel_rfl,by kernel_rfl,by kernel_rfl,by kernel_rfl⟩
def L0(P:Program)(t:TypeId):Bool:=match P.underlying t with
 |some (.struct fs)=>fs.toList.all fun f=>match P.underlying f.type with
  |some (.slice e)=>decide (16<=P.bytesOf e)
  |_=>true
 |_=>true
theorem Mb:TermAt Tryz.prog 51:=⟨_,_,_,_,_,_,_,_,_,9,48,Tryz.underlying51,by kernel_rfl,⟨rfl,rfl,rfl,rfl,rfl,rfl,rfl,rfl,rfl⟩,⟨by kernel_rfl,by kernel_rfl,by kernel_rfl,by kernel_rfl,by kernel_rfl,by kernel_rfl,by kernel_rfl,by kernel_rfl,by kernel_rfl⟩,
 ⟨by kernel_rfl,by kernel_rfl,by kernel_rfl,by kernel_rfl,by kernel_rfl,by kernel_rfl,by kernel_rfl,by kernel_rfl,by kernel_rfl⟩,⟨by kernel_rfl,by kernel_rfl,by kernel_rfl⟩,E6⟩
theorem tN{P:Program}{t:TypeId}(h:L0 P t=true):lR P t:=by intro fs i f e h1 h2 h3;unfold L0 at h;rw[h1]at h;have:=N2.1 h f (Nb (by rw[N3];exact h2));simp only[h3]at this;exact Xo this
theorem tO:∀(n:Nat)(s:Trm),szT s<=n->allT (iK 1048576 1048576) s=true->bR s=true/\eG s=true
 |0,s,h,_=>by have:=kf s;omega
 |n+1,s,h,ha=>by
  rw[allT_eq,MO,allTL_all,N2]at ha;have hb:=ha.1;unfold iK at hb;rw[MO,MS,MS]at hb;have hp:∀x∈s.parts,bR x=true/\eG x=true:=fun x hx=>by have h1:=mj hx;have h2:=ny s;exact tO n x (by omega) (ha.2 x hx)
  unfold bR eG at hp⊢;rw[allT_eq,allT_eq,MO,MO,allTL_all,allTL_all,N2,N2];refine⟨⟨Xd (by omega),fun x hx=>(hp x hx).1⟩,?_,fun x hx=>(hp x hx).2⟩;rw[Xd (show s.name.length<=2000000 by omega),Xd (show s.names.length<=2000000 by omega)];rfl
theorem Ap{d:Dcl}(h:allT (iK 1048576 1048576) d.term=true/\vA 1048576 d):b8 d=true:=by obtain⟨h1,h2⟩:=tO _ _ (N4 _) h.1;obtain⟨a,b,c,e,f,k⟩:=h.2;exact nC.2 ⟨⟨h2,h1⟩,yZ.2 ⟨by omega,by omega,by omega,by omega,by omega,by omega⟩⟩
theorem Jd:VersAt Tryz.prog 40:=⟨_,_,_,_,Tryz.underlying40,by kernel_rfl,⟨rfl,rfl,rfl,rfl⟩,⟨by kernel_rfl,by kernel_rfl,by kernel_rfl,by kernel_rfl⟩,by kernel_rfl,by kernel_rfl,by kernel_rfl,by kernel_rfl⟩
theorem MH:BndAt Tryz.prog 56:=⟨_,_,Tryz.underlying56,by kernel_rfl,⟨rfl,rfl⟩,⟨by kernel_rfl,by kernel_rfl⟩,by kernel_rfl,Jd⟩
theorem MI:ImpAt Tryz.prog 43:=⟨_,_,_,_,56,Tryz.underlying43,by kernel_rfl,⟨rfl,rfl,rfl,rfl⟩,⟨by kernel_rfl,by kernel_rfl,by kernel_rfl,by kernel_rfl⟩,by kernel_rfl,Jd,by kernel_rfl,by kernel_rfl,MH⟩
theorem MJ:DclAt Tryz.prog 53:=⟨_,_,_,_,_,Tryz.underlying53,by kernel_rfl,⟨rfl,rfl,rfl,rfl,rfl⟩,⟨by kernel_rfl,by kernel_rfl,by kernel_rfl,by kernel_rfl,by kernel_rfl⟩,by kernel_rfl,by kernel_rfl,⟨E6,tN (by kernel_rfl)⟩,⟨Mb,tN (by kernel_rfl)⟩,by kernel_rfl⟩
theorem Mc:ModuAt Tryz.prog 38:=⟨_,_,_,_,_,43,53,9,Tryz.underlying38,by kernel_rfl,⟨rfl,rfl,rfl,rfl,rfl⟩,⟨by kernel_rfl,by kernel_rfl,by kernel_rfl,by kernel_rfl,by kernel_rfl⟩,by kernel_rfl,by kernel_rfl,by kernel_rfl,by kernel_rfl,by kernel_rfl,MI,MJ,by kernel_rfl,by kernel_rfl⟩
theorem Je:lR Tryz.prog 38:=tN (by kernel_rfl)
theorem MK:Tryz.prog.underlying 22=some (.slice 38):=by kernel_rfl
theorem Md:Tryz.prog.readableRec 22=true:=by kernel_rfl
variable {H:Type}
theorem Jf(d:DataW H):1<=Rows.uptoBulk d:=by
 cases d with
 |lit l=>cases l<;>(unfold Rows.uptoBulk;omega)
 |_=>unfold Rows.uptoBulk;omega
theorem Aq:∀l:List (DataW H),l.length<=Rows.uptoBulkAll l
 |[]=>MZ _
 |d::r=>by have:=Aq r;have:=Jf d;unfold Rows.uptoBulkAll;rw[Ng];omega
theorem oE{d:DataW H}:∀{l:List (DataW H)},d∈l->Rows.uptoBulk d<=Rows.uptoBulkAll l
 |x::r,h=>by
  unfold Rows.uptoBulkAll;rcases N7.1 h with rfl|h
  ·omega
  ·have:=oE h;omega
theorem Gb(P:Program):GoodR (H:=H) P 1048576 1048576 (fun _ d=>Rows.uptoBulk d<=1048576) where
 str t s ht h:=by unfold Rows.uptoBulk at h;omega
 len t e es sp ht h h16:=by have:=Aq es;unfold Rows.uptoBulk at h;omega
 el t e es sp ht h x hx:=by have:=oE hx;unfold Rows.uptoBulk at h;omega
 part t fs ps ht h i f p hf hp:=by have:=oE (Nb hp);unfold Rows.uptoBulk at h;omega
theorem Jg{ds:List (DataW H)}(h:Rows.uptoSmall H ds=true){d:DataW H}(hd:d∈ds):Rows.uptoBulk d<=1048576:=by have:=oE hd;have:=Xo h;omega
end Go.Proofs.YtalkpiobgooadaaGreatDoor.Join
end
noncomputable section
namespace Go.AL.Seat
open Go Go.AL Go.Proofs Go.Pd
variable [Tabs] [SeatLaid] [SeatPow]
theorem Ar{l:List Modu}{k d:Int}(hl:Wf (.lst (.st .modu)) l)(hk:Wf (.int .i64) k)(hd:Wf (.int .i64) d)(hs:∀m∈l,m.decls.all b8=true)(hi:∀m∈l,m.imports.length<=1048576) :
  an Tryz.prog 4 [.lst (.st .modu) l none,.int .i64 k,.int .i64 d] [] (.ret (.bool true)):=
 oC l k d hl hk hd hs hi (IX dX 2001 (IW dX 2001 (G5 dX 2001 (pH dX) (tL 2001 (tK 2001))))) Al
end Go.AL.Seat
end
section
namespace Go.Proofs.YtalkpiobgooadaaGreatDoor.JEvalSteps
open Go.AL Go.AL.Seat Go.Pd Go.ChangeShapes Go.WideShapes Go.RowKit Go.Proofs.YtalkpiobgooadaaGreatDoor.Join
set_option maxRecDepth 1000000
theorem par:Tryz.f4.params=#[22,3,3]:=by kernel_rfl
theorem res:Tryz.f4.resultTypes=#[4]:=by kernel_rfl
theorem spec{H:Type}(ds:List (DataW H))(hd:ds.length=3):Rows.evalStepsSpec.fn H ds={results:=[.lit (.bool true)],args:=ds}:=by
 match ds,hd with
 |[d0,d1,d2],_=>rfl
theorem Jh(H:Type)(enc:TypeId×Value->H)(W:World)(base:Nat)(args:Array Value)(ds gs:List (DataW H))(before:List MemPlace)
 (hval:∀(j:Nat) t v,Tryz.f4.params[j]?=some t->args[j]?=some v->Value.okWide Tryz.prog W .any base t v)
 (hW:DataW.Whole enc Tryz.prog Tryz.f4.params.toList Rows.evalStepsSpec.vars false W args.toList ds gs before)(hku:Rows.uptoSmall H (ds++gs)=true)(hL:laidMet Tryz.prog laid W)(hsh:W.ShapedOpen Tryz.prog) :
  Calls Tryz.prog 4 args W fun e W'=>∃v,e=.returned v/\Rows.evalStepsSpec.post enc Tryz.prog Tryz.f4 false true false false W args v W':=by
 letI:Tabs:=lQ W
 haveI:SeatLaid:=J9 hL hsh
 haveI:SeatPow:=KJ hL
 have hW':=hW;obtain⟨p,q,hA,hV,_,_,_⟩:=hW;rw[par]at hA hval;obtain⟨v0,vs0,d0,ds0,p0,q0,hargs0,rfl,rfl,h0,r0⟩:=trodAll_cons hA;obtain⟨v1,vs1,d1,ds1,p1,q1,hargs1,rfl,rfl,h1,r1⟩:=trodAll_cons r0;obtain⟨v2,vs2,d2,ds2,p2,q2,hargs2,rfl,rfl,h2,r2⟩:=trodAll_cons r1;obtain⟨rfl,rfl,rfl⟩:=trodAll_nil r2;subst hargs1;subst hargs2;obtain rfl:args=#[v0,v1,v2]:=by have:=Ou List.toArray hargs0;simpa using this
 obtain⟨x0,hx0,hq0⟩:=KK (Gb Tryz.prog) MK Mc Je (hval 0 22 v0 rfl rfl) h0 (Jg hku (by simp));obtain⟨x1,hx1⟩:=Am M5 (hval 1 3 v1 rfl rfl) h1;obtain⟨x2,hx2⟩:=Am M5 (hval 2 3 v2 rfl rfl) h2;refine(G9 (Ar ⟨_,_,hx0⟩ ⟨_,_,hx1⟩ ⟨_,_,hx2⟩ (fun m hm=>N2.2 fun d hd=>Ap ((hq0 m hm).1 d hd)) (fun m hm=>(hq0 m hm).2)) (fun b o v h=>h.2) (fun b x h=>h.2) (VL.cons hx0 (VL.cons hx1 (VL.cons hx2 .nil)))).mono fun e W' ⟨he,hb⟩=>?_;subst he;refine⟨_,rfl,J7 (tb:=4) KH (fun t ht=>?_) rfl (fun ds hd=>spec ds ?_) res undB hW' hb⟩
 ·rw[par]at ht;have ht:t∈[22,3,3]:=ht;simp only[N7,OC,Qp]at ht;rcases ht with rfl|rfl|rfl
  ·exact⟨Md,Pp (by decide) dG⟩
  ·exact⟨KZ,Pp (by decide) dG⟩
  ·exact⟨KZ,Pp (by decide) dG⟩
 ·rw[par]at hd;exact hd
theorem reads(os:Os){H:Type}(enc:TypeId×Value->H):(DataW.whole enc Tryz.prog ((my os).forCall (fun _ _=>0) ⟨#[],#[.slice none 0 0,.int .i64 0,.int .i64 0],[]⟩).memory Tryz.f4.params.toList Rows.evalStepsSpec.vars false [Value.slice none 0 0,Value.int .i64 0,Value.int .i64 0] 8).map (fun x=>(x.1,x.2.1))=some ([.nil,.lit (.int .i64 0),.lit (.int .i64 0)],[]):=by kernel_rfl
theorem Me(os:Os)(started:os.Started)(H:Type)(enc:TypeId×Value->H)(F:Stop.Interp) :
  ReturnsInHanded {} Tryz.checked os 4 .any ((Rows.OpenSpec.upto Rows.evalStepsSpec).preRow enc Tryz.prog Tryz.f4 Rows.evalStepsUptoRow.domain false Rows.evalStepsUptoRow.laid) (((Rows.OpenSpec.upto Rows.evalStepsSpec).at F).post enc Tryz.prog Tryz.f4 false true false false):=by
 obtain⟨⟨y1,y2,y3⟩,hx,hy⟩:=MY.1 (reads os enc);simp only[Pa]at hy;obtain⟨rfl,rfl⟩:=hy
 refine returnsInHanded_of_row (C:=Tryz.checked) (s:=Rows.OpenSpec.upto Rows.evalStepsSpec) own started (by kernel_rfl) Tryz.func4
  (witness_row_atRef (enc:=enc) (C:=Tryz.checked) false (my os) #[.slice none 0 0,.int .i64 0,.int .i64 0] rfl (by kernel_rfl) (by kernel_rfl) (by kernel_rfl)
   (OpenSpec.preRow_of_cond 8 hx (by kernel_rfl) (fun k hk=>by cases hk;kernel_rfl) (by kernel_rfl) (Ja os _))) ?_
 intro W base args ds gs before hval hW _ hku _ hL hsh _;exact Jh H enc W base args ds gs before hval hW (hku _ rfl) hL hsh
theorem c1:(Rows.evalStepsUptoRow.inPlace ==Tryz.prog.inPlace 4)=true:=by kernel_rfl
theorem c2:(Rows.evalStepsUptoRow.unfollowed ==Tryz.prog.unfollowed 4)=true:=by kernel_rfl
theorem c3:(Rows.evalStepsUptoRow.recurses ==Tryz.prog.recurses 4)=true:=by kernel_rfl
theorem c4:(Rows.evalStepsUptoRow.named ==Tryz.prog.varsNamed 4)=true:=by kernel_rfl
theorem Mf:joinedFacts Tryz.prog 4 Tryz.f4 (Rows.OpenSpec.upto Rows.evalStepsSpec).bare Rows.evalStepsUptoRow=true:=by unfold joinedFacts;rw[c1,c2,c3,c4];kernel_rfl
theorem said:Rows.EvalStepsUptoSaid:=
 OpenClaim.holds_of_cond 4 Tryz.f4 rfl rfl rfl rfl rfl rfl rfl ⟨rfl,rfl,rfl,rfl,rfl⟩ rfl rfl rfl rfl rfl (by kernel_rfl) Tryz.func4 Mf
  (Xo (by kernel_rfl)) (by unfold Func.isWrapper;first|(rw[MR (by decide+kernel)];kernel_rfl)|(rw[MP (by decide+kernel)];exact⟨rfl,rfl⟩))
  (fun os started H enc _ F=>by rw[OpenClaim.pre_eq_preRow];exact Me os started H enc F)
theorem eA(f:FuncId)(fn:Func)(hf:Tryz.pinned.checked.prog.funcNamed "pandect/pandectlaw30.EvalSteps"=some f)(hfn:Tryz.pinned.checked.prog.funcs[f]?=some fn) :
  true=Tryz.pinned.checked.prog.looks []/\∀(j:Nat) t,fn.params[j]?=some t->Tryz.pinned.checked.prog.wantsStandIn t=false:=by
 obtain rfl:f=4:=Ni ((show Tryz.prog.funcNamed "pandect/pandectlaw30.EvalSteps"=some 4 by kernel_rfl).symm.trans hf) |>.symm;obtain rfl:fn=Tryz.f4:=(Ni (Tryz.func4.symm.trans hfn)).symm;refine ⟨by kernel_rfl,fun j t ht=>?_⟩;rw [par] at ht;have ht:=Array.mem_of_getElem? ht;simp only [List.mem_toArray,N7,OC,Qp] at ht;rcases ht with rfl | rfl | rfl
 ·exact(show Tryz.prog.wantsStandIn 22=false by kernel_rfl)
 ·exact(show Tryz.prog.wantsStandIn 3=false by kernel_rfl)
 ·exact(show Tryz.prog.wantsStandIn 3=false by kernel_rfl)
theorem card:Rows.EvalStepsUptoCardSaid:=
 Claim7.holds_tied_plain_at .later [] _ _ _ _ said (fun _ h=>by cases h) (by kernel_rfl) (fun _ h=>by cases h) evalStepsUpto_row_tie rfl ⟨rfl,rfl⟩ (by kernel_rfl) rfl eA (by kernel_rfl)
end Go.Proofs.YtalkpiobgooadaaGreatDoor.JEvalSteps
end
