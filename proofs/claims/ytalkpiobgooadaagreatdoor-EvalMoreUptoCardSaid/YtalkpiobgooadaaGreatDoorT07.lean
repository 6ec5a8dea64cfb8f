/- Plain facts. The layer: Go code as conditions, and that they are sound. No condition. -/
import Derived.Test.YtalkpiobgooadaaGreatDoorT06
import Derived.ChangeMaps
import Derived.Deep.DeepWitnessRowRef
import Derived.JoinedCond
import Derived.Lib.LaidIn
import Derived.Lib.LaidU8T
import Derived.OpenShut
import Derived.PinnedBridge
import Derived.ProofKit
import Derived.Shelf.Vars
import Derived.Test.YtalkpiobgooadaaGreatDoorCards
import Derived.Test.YtalkpiobgooadaaGreatDoorTie
import Derived.WalkKit
import Derived.WideKeyArgs
set_option linter.all false
set_option maxRecDepth 100000
section
open Go Go.AL Go.Proofs Go.Shelf Go.Pd
namespace Go.AL.Seat
variable [Tabs]
def nn:Nat->Bool:=fun _=>false
def cf(k:Nat->Bool)(l:Nat->List (Option Nat))(p r m:Nat->Bool)(s:Nat->List AV->List (Nat×SObj)->Option Ans):Cfg:=⟨tbl,s,k,l,p,r,m⟩
def a0:An:=⟨[],[],[]⟩
theorem g1(k:Nat->Bool)(l:Nat->List (Option Nat))(p r m:Nat->Bool){s:Nat->List AV->List (Nat×SObj)->Option Ans}(hS:bz Tryz.prog s)(a:An){f:Nat}{fn:Func}(hf:Tryz.prog.funcs[f]?=some fn)
 {args:List AV}{S:List (Nat×SObj)}{A:Ans}{Q:Prop}(q:Q)(h:fwp (cf k l p r m s) a fn args S A=Q:=by kernel_rfl):an Tryz.prog f args S A:=GY (C:=cf k l p r m s) mixed uY hS hf q h
theorem g0{s:Nat->List AV->List (Nat×SObj)->Option Ans}(hS:bz Tryz.prog s)(a:An){f:Nat}{fn:Func}(hf:Tryz.prog.funcs[f]?=some fn)
 {args:List AV}{S:List (Nat×SObj)}{A:Ans}{Q:Prop}(q:Q)(h:fwp (cf nn (fun _=>[]) nn nn nn s) a fn args S A=Q:=by kernel_rfl):an Tryz.prog f args S A:=GY (C:=cf nn (fun _=>[]) nn nn nn s) mixed uY hS hf q h
theorem sc{f:Nat}{g:Pat}{l:List (Nat×Pat)}(h:ag Tryz.prog f g)(hl:bz Tryz.prog (eA l)):bz Tryz.prog (eA ((f,g)::l)):=iA h hl
theorem sn:bz Tryz.prog (eA []):=jl
theorem ee{f:Nat}{fn:Func}(h:Tryz.prog.funcs[f]?=some fn)(e:(fn.body.isNone || (fn.name == "runtime.NumGoroutine"))=false:=by kernel_rfl):aq Tryz.prog f:=aq.mk' h e
variable [SeatLaid] [SeatPow]
theorem pC:ag Tryz.prog 99 (p1 (.int .u8) fun c=>.ret (.bool (cW c))):=
 bp (ee Tryz.func99) fun c _ _=>g0 sn a0 Tryz.func99 (Ic c)
theorem pD:ag Tryz.prog 100 (p1 (.int .u8) fun c=>.ret (.bool (df c))):=
 bp (ee Tryz.func100) fun c _ _=>g0 sn a0 Tryz.func100 (Ie c)
theorem FP:ag Tryz.prog 103 (p1 (.int .u8) fun c=>.ret (.bool (gQ c))):=
 bp (ee Tryz.func103) fun c _ _=>g0 sn a0 Tryz.func103 (Ig c)
theorem zC:ag Tryz.prog 101 (p1 (.int .u8) fun c=>.ret (.bool (gM c))):=
 bp (ee Tryz.func101) fun c _ _=>g0 (sc pC (sc pD (sc FP sn))) a0 Tryz.func101 (Kh c)
theorem CB:ag Tryz.prog 123 (pf .str 99 fun s=>.ret (.bool (cX cW s))):=
 kC (ee Tryz.func123) fun s hs _=>g0 (sc pC (sc pD (sc zC sn))) ⟨[(4,fun S0=>⟨Nat,fun k=>k<=s.length/\cX cW s=(s.drop k).all fun c=>gM (bI c),fun k=>[(22,.int .i64 k)],fun _=>[],fun k=>s.length-k⟩)],[],[]⟩ Tryz.func123 (Fm s hs)
theorem CC:ag Tryz.prog 123 (pf .str 100 fun s=>.ret (.bool (cX df s))):=
 kC (ee Tryz.func123) fun s hs _=>g0 (sc pC (sc pD (sc zC sn))) ⟨[(4,fun S0=>⟨Nat,fun k=>k<=s.length/\cX df s=(s.drop k).all fun c=>gM (bI c),fun k=>[(22,.int .i64 k)],fun _=>[],fun k=>s.length-k⟩)],[],[]⟩ Tryz.func123 (Fo s hs)
theorem IG:ag Tryz.prog 102 (p1 .str fun s=>.ret (.bool (yt s))):=
 bp (ee Tryz.func102) fun s _ _=>g0 sn a0 Tryz.func102 (Ki s)
theorem fP:ag Tryz.prog 66 (p1 .str fun s=>.ret (.bool (ay s))):=
 bp (ee Tryz.func66) fun s _ _=>g0 (sc CB (sc IG sn)) a0 Tryz.func66 (Kj s)
theorem ij:ag Tryz.prog 71 (p1 .str fun s=>.ret (.bool (dh s))):=
 bp (ee Tryz.func71) fun s _ _=>g0 (sc CC sn) a0 Tryz.func71 (Ih s)
theorem tu:ag Tryz.prog 73 (p2 (.lst .str) .str fun a v=>.ret (.int .i64 (bj a v 0))):=
 cP (ee Tryz.func73) fun a v ha _ _=>g0 sn ⟨[(2,fun S0=>⟨Nat,fun k=>k<=a.length/\bj a v 0=bj (a.drop k) v k,fun k=>[(8,.int .i64 k)],fun _=>[],fun k=>a.length-k⟩)],[],[]⟩ Tryz.func73 (Fp a v ha)
theorem mV:ag Tryz.prog 33 (p2 (.lst .str) .str fun a v=>.ret (.bool (decide (v∈a)))):=
 cP (ee Tryz.func33) fun a v _ _ _=>g0 (sc tu sn) a0 Tryz.func33 (wW a v)
theorem FQ:ag Tryz.prog 254 (p1 .str fun s=>.ret (.bool (ny s))):=
 bp (ee Tryz.func254) fun s _ _=>g0 sn a0 Tryz.func254 (Ii s)
theorem kx:ag Tryz.prog 131 (p1 (.lst .str) fun a=>⟨none,none,.fn 201 [.ptr 1 0],[(1,.box (.lst .str a none))]⟩):=
 bp (ee Tryz.func131) fun a _ _=>g0 sn a0 Tryz.func131 (Fq a)
theorem FR:ag Tryz.prog 253 (p1 (.st .shape) fun s=>⟨some (s.parts.length *16<=140737488355328),none,.bool (eY s),[]⟩):=
 bp (ee Tryz.func253) fun s hs ho=>g0 (sc fP (sc kx (sc (ke) (sc (iY) sn)))) ⟨[(4,fun S0=>⟨Nat,fun k=>k<=s.names.length/\s.names.length=s.parts.length/\eY s=(((s.names.drop k).all ay)&&decide s.names.Nodup),fun k=>[(16,.int .i64 k)],fun _=>[],fun k=>s.names.length-k⟩)],[],[]⟩ Tryz.func253 (Ij s hs (ho _ rfl))
theorem IH:ag Tryz.prog 196 (p1 (.st .shape) fun s=>⟨some (s.parts.length *16<=140737488355328),none,.bool (cJ s),[]⟩):=
 bp (ee Tryz.func196) fun s hs ho=>g0 (sc FR (sc ij (sc fP (sc FQ sn)))) a0 Tryz.func196 (Kk s hs (ho _ rfl))
theorem tv:aq Tryz.prog 195:=ee Tryz.func195
theorem ui(n:Nat)(s:AL.Shape)(hs:Wf (.st .shape) s)(hn:sz s<=n+1)(hb:n<=1000000)(hA:ag Tryz.prog 195 (pf (.st .shape) 196 fun s=>⟨some (sz s<=n),none,.bool (allS cJ s),[]⟩)):an Tryz.prog 195 [.st .shape s,.fn 196 []] [] (.ret (.bool (allS cJ s))):=
 g0 (sc IH (sc (hA) sn)) ⟨[(4,fun S0=>⟨Nat,fun k=>k<=s.parts.length/\allS cJ s=allL cJ (s.parts.drop k),fun k=>[(14,.int .i64 k)],fun _=>[],fun k=>s.parts.length-k⟩)],[],[]⟩ Tryz.func195 (Cf n s hs hn hb)
theorem zD:∀n:Nat,n<=1000000->ag Tryz.prog 195 (pf (.st .shape) 196 fun s=>⟨some (sz s<=n),none,.bool (allS cJ s),[]⟩):=by
 intro n
 induction n with
 |zero=>exact fun _=>kC tv fun a hs ho=>absurd (ho _ rfl) (by have:=nz a;omega)
 |succ n ih=>exact fun hb=>kC tv fun a hs ho=>ui n a hs (ho _ rfl) (by omega) (ih (by omega))
theorem II:ag Tryz.prog 252 (wC 297):=
 BG (ee Tryz.func252) fun c hc=>g0 sn a0 Tryz.func252 (Kl c hc)
theorem E4:aq Tryz.prog 251:=ee Tryz.func251
theorem CD(n:Nat)(s:AL.Shape)(l c:Int)(hs:Wf (.st .shape) s)(hn:sz s<=n+1)(hc:0<=c/\c<=400/\1<=l/\l<=c+1)(hA:ag Tryz.prog 251 (qL 297 252 n)):an Tryz.prog 251 [.st .shape s,.int .i64 l,.fn 252 [.ptr 900 0]] [(900,.box (.int .i64 c))] (Hf 297 s l c (sz s<=n+1)):=
 g0 (sc II (sc (hA) sn)) ⟨[(4,fun S0=>⟨Nat×Int,fun x=>x.1<=s.parts.length/\c+1+(szL (s.parts.take x.1):Int)<=400/\deepL (s.parts.drop x.1) (l+1) x.2=deepS s l,fun x=>[(7,.int .i64 x.2),(16,.int .i64 x.1)],fun x=>[(900,.box (.int .i64 (c+1+(szL (s.parts.take x.1):Int))))],fun x=>s.parts.length-x.1⟩)],[],[]⟩ Tryz.func251 (Km n s l c hs hn hc)
theorem IJ:∀n:Nat,ag Tryz.prog 251 (qL 297 252 n):=by
 intro n
 induction n with
 |zero=>exact sD E4 fun s l c hs hn hc=>absurd hn (by have:=nz s;omega)
 |succ n ih=>exact sD E4 fun s l c hs hn hc=>CD n s l c hs hn hc ih
theorem zF(s:AL.Shape)(hs:Wf (.st .shape) s) :an Tryz.prog 194 [.st .shape s] [] (.ret (.tup [.int .i64 (if sz s<=400 then(sz s:Int)else 401),.int .i64 (if sz s<=400 then deepS s 1 else 0),.bool (decide (sz s<=400))])):=
 fwpR_sound (C:=⟨tbl,_,fun _=>false,fun _=>[],fun _=>false,fun _=>false,fun _=>false⟩) (ann:=⟨[],[],[]⟩) (annC:=⟨[],[],[]⟩) mixed uY (iA (IJ (sz s)) (jl)) Tryz.func194 Tryz.func250 (enters_of Tryz.func250 (by kernel_rfl) rfl) (@Eq.mpr _ _ (by kernel_rfl) (Ik s hs))
theorem FT:ag Tryz.prog 194 (p1 (.st .shape) fun s=>.ret (.tup [.int .i64 (if sz s<=400 then(sz s:Int)else 401),.int .i64 (if sz s<=400 then deepS s 1 else 0),.bool (decide (sz s<=400))])):=
 bp (ee Tryz.func194) fun s hs _=>zF s hs
theorem pF:ag Tryz.prog 128 (p1 (.st .shape) fun s=>.ret (.int .i64 (di s))):=
 bp (ee Tryz.func128) fun s _ _=>g0 (sc (FT) (sc (zD 400 (by decide)) sn)) a0 Tryz.func128 (Il s)
theorem E5:aq Tryz.prog 12:=ee Tryz.func12
theorem CE(n:Nat)(s:AL.Shape)(m:Int)(hs:Wf (.st .shape) s)(ho:sz s<=n+1/\0<=m/\m<=1000000)(hA:ag Tryz.prog 12 (p2 (.st .shape) (.int .i64) fun s m=>⟨some (sz s<=n/\0<=m/\m<=1000000),none,.int .i64 (sizeF s m),[]⟩)):an Tryz.prog 12 [.st .shape s,.int .i64 m] [] (.ret (.int .i64 (sizeF s m))):=
 g0 (sc (hA) sn) ⟨[(3,fun S0=>⟨Nat×Int,fun x=>x.1<=s.parts.length/\1<=x.2/\x.2<=m+1/\sizeL (s.parts.drop x.1) x.2 m=sizeF s m,fun x=>[(5,.int .i64 x.2),(6,.int .i64 x.1)],fun _=>[],fun x=>s.parts.length-x.1⟩)],[],[]⟩ Tryz.func12 (Kn n s m hs ho)
theorem IK:∀n:Nat,ag Tryz.prog 12 (p2 (.st .shape) (.int .i64) fun s m=>⟨some (sz s<=n/\0<=m/\m<=1000000),none,.int .i64 (sizeF s m),[]⟩):=by
 intro n
 induction n with
 |zero=>exact cP E5 fun a m _ _ ho=>absurd (ho _ rfl).1 (by have:=nz a;omega)
 |succ n ih=>exact cP E5 fun a m ha _ ho=>CE n a m ha (ho _ rfl) ih
theorem vq:aq Tryz.prog 59:=ee Tryz.func59
theorem wX(n:Nat)(t:Trm)(m:Int)(hs:Wf (.st .term) t)(hz:szT t<=n+1)(h0:0<=m)(h1:m<=1000000)(hA:ag Tryz.prog 59 (p2 (.st .term) (.int .i64) fun t m=>⟨some (szT t<=n/\0<=m/\m<=1000000),none,.tup [.int .i64 (countT t m).1,.int .i64 (countT t m).2],[]⟩)):an Tryz.prog 59 [.st .term t,.int .i64 m] [] (⟨some (szT t<=n+1/\0<=m/\m<=1000000),none,.tup [.int .i64 (countT t m).1,.int .i64 (countT t m).2],[]⟩):=
 g0 (sc (hA) sn) ⟨[(3,fun S0=>⟨Nat×Int×Int,fun y=>y.1<=t.parts.length/\1<=y.2.1/\y.2.1<=m+1/\0<=y.2.2/\y.2.2+1<=y.2.1/\countL (t.parts.drop y.1) m y.2.1 y.2.2=countL t.parts m 1 0,fun y=>[(6,.int .i64 y.2.1),(7,.int .i64 y.2.2),(15,.int .i64 y.1)],fun _=>[],fun y=>t.parts.length-y.1⟩)],[],[]⟩ Tryz.func59 (Fs n t m hs hz h0 h1)
theorem tw:∀n:Nat,ag Tryz.prog 59 (p2 (.st .term) (.int .i64) fun t m=>⟨some (szT t<=n/\0<=m/\m<=1000000),none,.tup [.int .i64 (countT t m).1,.int .i64 (countT t m).2],[]⟩)
 |0=>cP vq fun t m hs _ ho=>absurd (ho _ rfl).1 (by have:=kf t;omega)
 |n+1=>cP vq fun t m hs _ ho=>wX n t m hs (ho _ rfl).1 (ho _ rfl).2.1 (ho _ rfl).2.2 (tw n)
theorem zG:ag Tryz.prog 242 (pcl .str 66 fun x=>⟨none,none,.bool (!ay x),[]⟩):=
 pj (ee Tryz.func242) fun x _ ho=>g0 (sc fP sn) a0 Tryz.func242 (Cg x)
theorem zH:ag Tryz.prog 277 (pfc (.lst .str) 242 66 fun l=>⟨none,none,.int .i64 (aF ay l 0),[]⟩):=
 gR (ee Tryz.func277) fun l hl ho=>g0 (sc zG sn) ⟨[(2,fun S0=>⟨Nat,fun k=>k<=l.length/\aF ay (l.drop k) k=aF ay l 0,fun k=>[(8,.int .i64 k)],fun _=>[],fun k=>l.length-k⟩)],[],[]⟩ Tryz.func277 (Ch l hl)
theorem zI:ag Tryz.prog 241 (pfc (.lst .str) 242 66 fun l=>⟨none,none,.bool (!l.all ay),[]⟩):=
 gR (ee Tryz.func241) fun l _ ho=>g0 (sc zH sn) a0 Tryz.func241 (Ci l)
theorem vr:ag Tryz.prog 185 (pf (.lst .str) 66 fun l=>⟨none,none,.bool (l.all ay),[]⟩):=
 kC (ee Tryz.func185) fun l _ ho=>g0 (sc zI sn) a0 Tryz.func185 (Im l)
theorem FU:ag Tryz.prog 184 (p1 (.lst .str) fun l=>⟨some (l.length *16<=140737488355328),none,.bool (l.all ay&&decide l.Nodup),[]⟩):=
 bp (ee Tryz.func184) fun l _ ho=>g0 (sc kx (sc (ke) (sc vr (sc (iY) sn)))) a0 Tryz.func184 (Io l (ho _ rfl))
theorem CF:aq Tryz.prog 238:=ee Tryz.func238
theorem uj(n:Nat)(x:Shape) (ho:sz x<=n)(hA:ag Tryz.prog 239 (p1 (.st .shape) fun s=>⟨some (sz s<=n),none,.bool (allS aI s),[]⟩)):an Tryz.prog 238 [.st .shape x,.ptr 900 0] [(900,.box (.fn 239 []))] (⟨some (sz x<=n),none,.bool (!(allS aI) x),[]⟩):=
 g0 (sc (hA) sn) a0 Tryz.func238 (Cj n x ho)
theorem zJ(n:Nat)(hA:ag Tryz.prog 239 (p1 (.st .shape) fun s=>⟨some (sz s<=n),none,.bool (allS aI s),[]⟩)):ag Tryz.prog 238 (pcl (.st .shape) 239 fun x=>⟨some (sz x<=n),none,.bool (!(allS aI) x),[]⟩):=
 pj CF fun x _ ho=>uj n x (ho _ rfl) hA
theorem CG:aq Tryz.prog 255:=ee Tryz.func255
theorem uk(n:Nat)(l:List AL.Shape) (hl:Wf (.lst (.st .shape)) l)(ho:∀x∈l,sz x<=n)(hA:ag Tryz.prog 239 (p1 (.st .shape) fun s=>⟨some (sz s<=n),none,.bool (allS aI s),[]⟩)):an Tryz.prog 255 [.lst (.st .shape) l none,.fn 238 [.ptr 900 0]] [(900,.box (.fn 239 []))] (⟨some (∀x∈l,sz x<=n),none,.int .i64 (aF (allS aI) l 0),[]⟩):=
 g0 (sc ((zJ n hA)) sn) ⟨[(2,fun S0=>⟨Nat,fun k=>k<=l.length/\aF (allS aI) (l.drop k) k=aF (allS aI) l 0,fun k=>[(8,.int .i64 k)],fun _=>[],fun k=>l.length-k⟩)],[],[]⟩ Tryz.func255 (Ck n l hl ho)
theorem zK(n:Nat)(hA:ag Tryz.prog 239 (p1 (.st .shape) fun s=>⟨some (sz s<=n),none,.bool (allS aI s),[]⟩)):ag Tryz.prog 255 (pfc (.lst (.st .shape)) 238 239 fun l=>⟨some (∀x∈l,sz x<=n),none,.int .i64 (aF (allS aI) l 0),[]⟩):=
 gR CG fun l hl ho=>uk n l hl (ho _ rfl) hA
theorem CH:aq Tryz.prog 197:=ee Tryz.func197
theorem um(n:Nat)(l:List AL.Shape) (ho:∀x∈l,sz x<=n)(hA:ag Tryz.prog 239 (p1 (.st .shape) fun s=>⟨some (sz s<=n),none,.bool (allS aI s),[]⟩)):an Tryz.prog 197 [.lst (.st .shape) l none,.fn 238 [.ptr 900 0]] [(900,.box (.fn 239 []))] (⟨some (∀x∈l,sz x<=n),none,.bool (!l.all (allS aI)),[]⟩):=
 g0 (sc ((zK n hA)) sn) a0 Tryz.func197 (Cl n l ho)
theorem zL(n:Nat)(hA:ag Tryz.prog 239 (p1 (.st .shape) fun s=>⟨some (sz s<=n),none,.bool (allS aI s),[]⟩)):ag Tryz.prog 197 (pfc (.lst (.st .shape)) 238 239 fun l=>⟨some (∀x∈l,sz x<=n),none,.bool (!l.all (allS aI)),[]⟩):=
 gR CH fun l _ ho=>um n l (ho _ rfl) hA
theorem IL:aq Tryz.prog 181:=ee Tryz.func181
theorem zM(n:Nat)(l:List AL.Shape) (ho:∀x∈l,sz x<=n)(hA:ag Tryz.prog 239 (p1 (.st .shape) fun s=>⟨some (sz s<=n),none,.bool (allS aI s),[]⟩)):an Tryz.prog 181 [.lst (.st .shape) l none,.fn 239 []] [] (⟨some (∀x∈l,sz x<=n),none,.bool (l.all (allS aI)),[]⟩):=
 g0 (sc ((zL n hA)) sn) a0 Tryz.func181 (Ip n l ho)
theorem FV(n:Nat)(hA:ag Tryz.prog 239 (p1 (.st .shape) fun s=>⟨some (sz s<=n),none,.bool (allS aI s),[]⟩)):ag Tryz.prog 181 (pf (.lst (.st .shape)) 239 fun l=>⟨some (∀x∈l,sz x<=n),none,.bool (l.all (allS aI)),[]⟩):=
 kC IL fun l _ ho=>zM n l (ho _ rfl) hA
theorem E6:aq Tryz.prog 239:=ee Tryz.func239
theorem CI(n:Nat)(s:AL.Shape)(ho:sz s<=n+1)(hE:ag Tryz.prog 181 (pf (.lst (.st .shape)) 239 fun l=>⟨some (∀x∈l,sz x<=n),none,.bool (l.all (allS aI)),[]⟩)):an Tryz.prog 239 [.st .shape s] [] (⟨some (sz s<=n+1),none,.bool (allS aI s),[]⟩):=
 g0 (sc (hE) sn) a0 Tryz.func239 (Ko n s ho)
theorem zN:∀n:Nat,ag Tryz.prog 239 (p1 (.st .shape) fun s=>⟨some (sz s<=n),none,.bool (allS aI s),[]⟩)
 |0=>bp E6 fun s _ ho=>absurd (ho _ rfl) (by have:=nz s;omega)
 |n+1=>bp E6 fun s _ ho=>CI n s (ho _ rfl) (FV n (zN n))
theorem CJ:ag Tryz.prog 182 (p1 (.st .shape) fun s=>.ret (.bool (decide (di s=0)&&allS aI s))):=
 bp (ee Tryz.func182) fun s _ _=>g0 (sc pF (sc (zN 400) sn)) a0 Tryz.func182 (Ft s)
theorem KD:ag Tryz.prog 180 (p1 (.st .term) fun t=>.ret (.agg [.int .i64 (t.names.length:Int),.int .i64 (t.vars.length:Int),.int .i64 (t.shapes.length:Int),.int .i64 (t.parts.length:Int)])):=
 bp (ee Tryz.func180) fun t _ _=>g0 sn a0 Tryz.func180 (LY t)
theorem FW:ag Tryz.prog 183 (p1 .str fun s=>.ret (.bool (sQ s))):=
 bp (ee Tryz.func183) fun s hs _=>g0 (sc (F0) sn) ⟨[(2,fun S0=>⟨Nat,fun k=>k<=s.length/\(s.all iB)=(s.drop k).all iB,fun k=>[(8,.int .i64 k)],fun _=>[],fun k=>s.length-k⟩)],[],[]⟩ Tryz.func183 (Iq s hs)
theorem wY:ag Tryz.prog 238 (pcl (.st .shape) 182 fun x=>⟨none,none,.bool (!ct x),[]⟩):=
 pj (ee Tryz.func238) fun x _ ho=>g0 (sc CJ sn) a0 Tryz.func238 (zt x)
theorem wZ:ag Tryz.prog 255 (pfc (.lst (.st .shape)) 238 182 fun l=>⟨none,none,.int .i64 (aF ct l 0),[]⟩):=
 gR (ee Tryz.func255) fun l hl ho=>g0 (sc wY sn) ⟨[(2,fun S0=>⟨Nat,fun k=>k<=l.length/\aF ct (l.drop k) k=aF ct l 0,fun k=>[(8,.int .i64 k)],fun _=>[],fun k=>l.length-k⟩)],[],[]⟩ Tryz.func255 (zu l hl)
theorem xa:ag Tryz.prog 197 (pfc (.lst (.st .shape)) 238 182 fun l=>⟨none,none,.bool (!l.all ct),[]⟩):=
 gR (ee Tryz.func197) fun l _ ho=>g0 (sc wZ sn) a0 Tryz.func197 (zw l)
theorem CK:ag Tryz.prog 181 (pf (.lst (.st .shape)) 182 fun l=>⟨none,none,.bool (l.all ct),[]⟩):=
 kC (ee Tryz.func181) fun l _ ho=>g0 (sc xa sn) a0 Tryz.func181 (Fu l)
theorem FX:ag Tryz.prog 120 (p1 (.st .term) fun t=>⟨some (t.names.length<=8796093022208),none,.bool (aV t),[]⟩):=
 bp (ee Tryz.func120) fun t ht ho=>g0 (sc KD (sc CK (sc FW (sc fP (sc FU (sc vr (sc ij sn))))))) ⟨[],[],[(2,fun S0=>⟨[(34,.bool (!qh t))],[]⟩)]⟩ Tryz.func120 (Ir t ht (ho _ rfl))
theorem zO:aq Tryz.prog 187:=ee Tryz.func187
theorem tx(n:Nat)(x:Trm) (ho:szT x<=n/\bR x=true)(hA:ag Tryz.prog 60 (p1 (.st .term) fun t=>⟨some (szT t<=n/\bR t=true),none,.bool (allT aV t),[]⟩)):an Tryz.prog 187 [.st .term x,.ptr 900 0] [(900,.box (.fn 60 []))] (⟨some (szT x<=n/\bR x=true),none,.bool (!(allT aV) x),[]⟩):=
 g0 (sc (hA) sn) a0 Tryz.func187 (zx n x ho)
theorem xb(n:Nat)(hA:ag Tryz.prog 60 (p1 (.st .term) fun t=>⟨some (szT t<=n/\bR t=true),none,.bool (allT aV t),[]⟩)):ag Tryz.prog 187 (pcl (.st .term) 60 fun x=>⟨some (szT x<=n/\bR x=true),none,.bool (!(allT aV) x),[]⟩):=
 pj zO fun x _ ho=>tx n x (ho _ rfl) hA
theorem zP:aq Tryz.prog 243:=ee Tryz.func243
theorem tz(n:Nat)(l:List Trm) (hl:Wf (.lst (.st .term)) l)(ho:∀x∈l,szT x<=n/\bR x=true)(hA:ag Tryz.prog 60 (p1 (.st .term) fun t=>⟨some (szT t<=n/\bR t=true),none,.bool (allT aV t),[]⟩)):an Tryz.prog 243 [.lst (.st .term) l none,.fn 187 [.ptr 900 0]] [(900,.box (.fn 60 []))] (⟨some (∀x∈l,szT x<=n/\bR x=true),none,.int .i64 (aF (allT aV) l 0),[]⟩):=
 g0 (sc ((xb n hA)) sn) ⟨[(2,fun S0=>⟨Nat,fun k=>k<=l.length/\aF (allT aV) (l.drop k) k=aF (allT aV) l 0,fun k=>[(8,.int .i64 k)],fun _=>[],fun k=>l.length-k⟩)],[],[]⟩ Tryz.func243 (zy n l hl ho)
theorem xc(n:Nat)(hA:ag Tryz.prog 60 (p1 (.st .term) fun t=>⟨some (szT t<=n/\bR t=true),none,.bool (allT aV t),[]⟩)):ag Tryz.prog 243 (pfc (.lst (.st .term)) 187 60 fun l=>⟨some (∀x∈l,szT x<=n/\bR x=true),none,.int .i64 (aF (allT aV) l 0),[]⟩):=
 gR zP fun l hl ho=>tz n l hl (ho _ rfl) hA
theorem zQ:aq Tryz.prog 186:=ee Tryz.func186
theorem tA(n:Nat)(l:List Trm) (ho:∀x∈l,szT x<=n/\bR x=true)(hA:ag Tryz.prog 60 (p1 (.st .term) fun t=>⟨some (szT t<=n/\bR t=true),none,.bool (allT aV t),[]⟩)):an Tryz.prog 186 [.lst (.st .term) l none,.fn 187 [.ptr 900 0]] [(900,.box (.fn 60 []))] (⟨some (∀x∈l,szT x<=n/\bR x=true),none,.bool (!l.all (allT aV)),[]⟩):=
 g0 (sc ((xc n hA)) sn) a0 Tryz.func186 (zA n l ho)
theorem xe(n:Nat)(hA:ag Tryz.prog 60 (p1 (.st .term) fun t=>⟨some (szT t<=n/\bR t=true),none,.bool (allT aV t),[]⟩)):ag Tryz.prog 186 (pfc (.lst (.st .term)) 187 60 fun l=>⟨some (∀x∈l,szT x<=n/\bR x=true),none,.bool (!l.all (allT aV)),[]⟩):=
 gR zQ fun l _ ho=>tA n l (ho _ rfl) hA
theorem FY:aq Tryz.prog 121:=ee Tryz.func121
theorem xf(n:Nat)(l:List Trm) (ho:∀x∈l,szT x<=n/\bR x=true)(hA:ag Tryz.prog 60 (p1 (.st .term) fun t=>⟨some (szT t<=n/\bR t=true),none,.bool (allT aV t),[]⟩)):an Tryz.prog 121 [.lst (.st .term) l none,.fn 60 []] [] (⟨some (∀x∈l,szT x<=n/\bR x=true),none,.bool (l.all (allT aV)),[]⟩):=
 g0 (sc ((xe n hA)) sn) a0 Tryz.func121 (Fv n l ho)
theorem CL(n:Nat)(hA:ag Tryz.prog 60 (p1 (.st .term) fun t=>⟨some (szT t<=n/\bR t=true),none,.bool (allT aV t),[]⟩)):ag Tryz.prog 121 (pf (.lst (.st .term)) 60 fun l=>⟨some (∀x∈l,szT x<=n/\bR x=true),none,.bool (l.all (allT aV)),[]⟩):=
 kC FY fun l _ ho=>xf n l (ho _ rfl) hA
theorem vt:aq Tryz.prog 60:=ee Tryz.func60
theorem xg(n:Nat)(t:Trm)(ho:szT t<=n+1/\bR t=true)(hE:ag Tryz.prog 121 (pf (.lst (.st .term)) 60 fun l=>⟨some (∀x∈l,szT x<=n/\bR x=true),none,.bool (l.all (allT aV)),[]⟩)):an Tryz.prog 60 [.st .term t] [] (⟨some (szT t<=n+1/\bR t=true),none,.bool (allT aV t),[]⟩):=
 g0 (sc FX (sc (hE) sn)) a0 Tryz.func60 (Fw n t ho)
theorem tB:∀n:Nat,ag Tryz.prog 60 (p1 (.st .term) fun t=>⟨some (szT t<=n/\bR t=true),none,.bool (allT aV t),[]⟩)
 |0=>bp vt fun t _ ho=>absurd (ho _ rfl).1 (by have:=kf t;omega)
 |n+1=>bp vt fun t _ ho=>xg n t (ho _ rfl) (CL n (tB n))
theorem xh(x:Trm)(ho:bR x=true) :an Tryz.prog 25 [.st .term x] [] (⟨some (bR x=true),none,.int .i64 (cY x),[]⟩):=
 g0 (sc (tw (szT x)) (sc (tB (szT x)) sn)) a0 Tryz.func25 (Fx x ho)
theorem nH:ag Tryz.prog 25 (p1 (.st .term) fun t=>⟨some (bR t=true),none,.int .i64 (cY t),[]⟩):=
 bp (ee Tryz.func25) fun t _ ho=>xh t (ho _ rfl)
theorem zR:aq Tryz.prog 11:=ee Tryz.func11
theorem zS(n:Nat)(s:Trm)(m:Int)(hs:Wf (.st .term) s)(ho:szT s<=n+1/\0<=m/\m<=1000000)(hA:ag Tryz.prog 11 (p2 (.st .term) (.int .i64) fun s m=>⟨some (szT s<=n/\0<=m/\m<=1000000),none,.int .i64 (dI s m),[]⟩)):an Tryz.prog 11 [.st .term s,.int .i64 m] [] (.ret (.int .i64 (dI s m))):=
 g0 (sc (hA) sn) ⟨[(3,fun S0=>⟨Nat×Int,fun x=>x.1<=s.parts.length/\1<=x.2/\x.2<=m+1/\sizeTL (s.parts.drop x.1) x.2 m=dI s m,fun x=>[(5,.int .i64 x.2),(6,.int .i64 x.1)],fun _=>[],fun x=>s.parts.length-x.1⟩)],[],[]⟩ Tryz.func11 (Is n s m hs ho)
theorem FZ:∀n:Nat,ag Tryz.prog 11 (p2 (.st .term) (.int .i64) fun s m=>⟨some (szT s<=n/\0<=m/\m<=1000000),none,.int .i64 (dI s m),[]⟩):=by
 intro n
 induction n with
 |zero=>exact cP zR fun a m _ _ ho=>absurd (ho _ rfl).1 (by have:=kf a;omega)
 |succ n ih=>exact cP zR fun a m ha _ ho=>zS n a m ha (ho _ rfl) ih
theorem ql:ag Tryz.prog 171 (p1 .str fun s=>.ret (.bool (bZ s))):=
 bp (ee Tryz.func171) fun s _ _=>g0 (sc (yI) sn) a0 Tryz.func171 (Cm s)
theorem G0:ag Tryz.prog 125 (p1 .str fun s=>.ret (.bool (fR s))):=
 bp (ee Tryz.func125) fun s hs _=>g0 (sc ql sn) ⟨[(4,fun S0=>⟨Nat,fun k=>k<=s.length/\(s.all fun c=>iM (bI c))=(s.drop k).all fun c=>iM (bI c),fun k=>[(22,.int .i64 k)],fun _=>[],fun k=>s.length-k⟩)],[],[]⟩ Tryz.func125 (It s hs)
theorem tC:ag Tryz.prog 67 (p1 (.st .version) fun v=>.ret (.int .i64 (dx v))):=
 bp (ee Tryz.func67) fun v hv _=>g0 (sc (po) (sc G0 sn)) ⟨[(2,fun S0=>⟨Nat,fun k=>k<=3/\([v.major,v.minor,v.patch].take k).all qt=true,fun k=>[(15,.int .i64 k)],fun _=>[],fun k=>3-k⟩),(11,fun S0=>⟨Nat,fun k=>k<=(splitB 46 v.pre).length/\((splitB 46 v.pre).take k).all fR=true,fun k=>[(37,.int .i64 k)],fun _=>[],fun k=>(splitB 46 v.pre).length-k⟩)],[],[]⟩ Tryz.func67 (Fy v hv)
theorem CM:ag Tryz.prog 163 (p2 .str (.int .u8) fun s c=>⟨some (c=48),none,.str (cG s),[]⟩):=
 cP (ee Tryz.func163) fun s c hs _ ho=>g0 sn ⟨[(1,fun S0=>⟨Nat,fun k=>k<=s.length/\cG s=cG (s.drop k),fun k=>[(0,.str (s.drop k))],fun _=>[],fun k=>s.length-k⟩)],[],[]⟩ Tryz.func163 (Fz s c hs (ho _ rfl))
theorem xi:ag Tryz.prog 284 (p2 .str .str fun s t=>⟨some (t=[48]),none,.str (cG s),[]⟩):=
 cP (ee Tryz.func284) fun s t _ _ ho=>g0 (sc CM sn) a0 Tryz.func284 (zB s t (ho _ rfl))
theorem IM:ag Tryz.prog 247 (p1 (.int .i64) fun a=>.ret (.bool false)):=
 bp (ee Tryz.func247) fun a _ _=>g0 sn a0 Tryz.func247 (Kp a)
theorem tD:ag Tryz.prog 192 (p2 (.int .i64) (.int .i64) fun a b=>.ret (.int .i64 (dW a b))):=
 cP (ee Tryz.func192) fun a b _ _ _=>g0 (sc IM sn) a0 Tryz.func192 (FA a b)
theorem E7:ag Tryz.prog 191 (p1 (.lst (.int .i64)) fun l=>.ret (.int .i64 (orI l))):=
 bp (ee Tryz.func191) fun l hl _=>g0 sn ⟨[(3,fun S0=>⟨Nat,fun k=>k<=l.length/\orI l=orI (l.drop k),fun k=>[(8,.int .i64 k)],fun _=>[],fun k=>l.length-k⟩)],[],[]⟩ Tryz.func191 (LZ l hl)
theorem zT:ag Tryz.prog 248 (p2 .str .str fun a b=>.ret (.int .i64 (F4 a b))):=
 cP (ee Tryz.func248) fun a b _ _ _=>g0 (sc xi (sc tD (sc (qj) (sc E7 sn)))) a0 Tryz.func248 (Cn a b)
theorem CN:ag Tryz.prog 193 (p2 .str .str fun a b=>.ret (.int .i64 (mC a b))):=
 cP (ee Tryz.func193) fun a b _ _ _=>g0 (sc ql (sc zT (sc (qj) sn))) a0 Tryz.func193 (FC a b)
theorem IN:ag Tryz.prog 127 (p2 (.st .version) (.st .version) fun a b=>⟨some (a.pre.length<=4096/\b.pre.length<=4096),none,.int .i64 (lD a b),[]⟩):=
 cP (ee Tryz.func127) fun a b _ _ ho=>g1 nn (fun _=>[]) nn nn (fun d=>Nat.beq d 17||Nat.beq d 22||Nat.beq d 27||Nat.beq d 29||Nat.beq d 43||Nat.beq d 46||Nat.beq d 63) (sc tD (sc E7 (sc CN (sc (po) sn)))) ⟨[(12,fun S0=>⟨Nat,fun k=>k<=(splitB 46 a.pre).length/\k<=(splitB 46 b.pre).length/\kj (splitB 46 a.pre) (splitB 46 b.pre)=kj ((splitB 46 a.pre).drop k) ((splitB 46 b.pre).drop k),fun k=>[(52,.int .i64 k)],fun _=>[],fun k=>(splitB 46 a.pre).length-k⟩)],[],[]⟩ Tryz.func127 (Kq a b (ho _ rfl))
theorem G1:ag Tryz.prog 126 (p1 (.int .i64) fun n=>.ret (.str (sS n))):=
 bp (ee Tryz.func126) fun n _ _=>g0 sn a0 Tryz.func126 (Iu n)
theorem CO:ag Tryz.prog 68 (p1 (.lst (.st .bound)) fun l=>.ret (.int .i64 (mD l))):=
 bp (ee Tryz.func68) fun l hl _=>g0 (sc G1 (sc tC sn)) ⟨[(4,fun S0=>⟨Nat,fun k=>k<=l.length/\l.all lE=(l.drop k).all lE,fun k=>[(10,.int .i64 k)],fun _=>[],fun k=>l.length-k⟩)],[],[]⟩ Tryz.func68 (FD l hl)
theorem CP:ag Tryz.prog 69 (p2 (.st .version) (.lst (.st .bound)) fun v l=>⟨some (v.pre.length<=4096/\∀b∈l,b.v.pre.length<=4096),none,.bool (dj v l),[]⟩):=
 cP (ee Tryz.func69) fun v l _ hl ho=>g0 (sc IN sn) ⟨[(2,fun S0=>⟨Nat,fun k=>k<=l.length/\dj v l=dj v (l.drop k),fun k=>[(10,.int .i64 k)],fun _=>[],fun k=>l.length-k⟩)],[],[]⟩ Tryz.func69 (FE v l hl (ho _ rfl))
theorem CQ:aq Tryz.prog 198:=ee Tryz.func198
theorem uo(n:Nat)(x:Shape)(ho:sz x<=n)(hA:ag Tryz.prog 129 (p1 (.st .shape) fun s=>⟨some (sz s<=n),none,.bool (allS aI s),[]⟩)):an Tryz.prog 198 [.st .shape x] [] (⟨some (sz x<=n),none,.bool (!allS aI x),[]⟩):=
 g0 (sc (hA) sn) a0 Tryz.func198 (Co n x ho)
theorem zU(n:Nat)(hA:ag Tryz.prog 129 (p1 (.st .shape) fun s=>⟨some (sz s<=n),none,.bool (allS aI s),[]⟩)):ag Tryz.prog 198 (p1 (.st .shape) fun x=>⟨some (sz x<=n),none,.bool (!allS aI x),[]⟩):=
 bp CQ fun x _ ho=>uo n x (ho _ rfl) hA
theorem CR:aq Tryz.prog 255:=ee Tryz.func255
theorem uq(n:Nat)(l:List AL.Shape)(hl:Wf (.lst (.st .shape)) l)(ho:∀x∈l,sz x<=n)(hA:ag Tryz.prog 129 (p1 (.st .shape) fun s=>⟨some (sz s<=n),none,.bool (allS aI s),[]⟩)):an Tryz.prog 255 [.lst (.st .shape) l none,.fn 198 []] [] (⟨some (∀x∈l,sz x<=n),none,.int .i64 (aF (allS aI) l 0),[]⟩):=
 g0 (sc (zU n hA) sn) ⟨[(2,fun S0=>⟨Nat,fun k=>k<=l.length/\aF (allS aI) (l.drop k) k=aF (allS aI) l 0,fun k=>[(8,.int .i64 k)],fun _=>[],fun k=>l.length-k⟩)],[],[]⟩ Tryz.func255 (Cp n l hl ho)
theorem zW(n:Nat)(hA:ag Tryz.prog 129 (p1 (.st .shape) fun s=>⟨some (sz s<=n),none,.bool (allS aI s),[]⟩)):ag Tryz.prog 255 (pf (.lst (.st .shape)) 198 fun l=>⟨some (∀x∈l,sz x<=n),none,.int .i64 (aF (allS aI) l 0),[]⟩):=
 kC CR fun l hl ho=>uq n l hl (ho _ rfl) hA
theorem CS:aq Tryz.prog 197:=ee Tryz.func197
theorem ur(n:Nat)(l:List AL.Shape)(hl:Wf (.lst (.st .shape)) l)(ho:∀x∈l,sz x<=n)(hA:ag Tryz.prog 129 (p1 (.st .shape) fun s=>⟨some (sz s<=n),none,.bool (allS aI s),[]⟩)):an Tryz.prog 197 [.lst (.st .shape) l none,.fn 198 []] [] (⟨some (∀x∈l,sz x<=n),none,.bool (!l.all (allS aI)),[]⟩):=
 g0 (sc (zW n hA) sn) a0 Tryz.func197 (Cq n l hl ho)
theorem zX(n:Nat)(hA:ag Tryz.prog 129 (p1 (.st .shape) fun s=>⟨some (sz s<=n),none,.bool (allS aI s),[]⟩)):ag Tryz.prog 197 (pf (.lst (.st .shape)) 198 fun l=>⟨some (∀x∈l,sz x<=n),none,.bool (!l.all (allS aI)),[]⟩):=
 kC CS fun l hl ho=>ur n l hl (ho _ rfl) hA
theorem zY:aq Tryz.prog 129:=ee Tryz.func129
theorem zZ(n:Nat)(s:AL.Shape)(ho:sz s<=n+1)(hE:ag Tryz.prog 197 (pf (.lst (.st .shape)) 198 fun l=>⟨some (∀x∈l,sz x<=n),none,.bool (!l.all (allS aI)),[]⟩)):an Tryz.prog 129 [.st .shape s] [] (⟨some (sz s<=n+1),none,.bool (allS aI s),[]⟩):=
 g0 (sc (hE) sn) a0 Tryz.func129 (Iv n s ho)
theorem vu:∀n:Nat,ag Tryz.prog 129 (p1 (.st .shape) fun s=>⟨some (sz s<=n),none,.bool (allS aI s),[]⟩)
 |0=>bp zY fun s _ ho=>absurd (nz s) (by have:=ho _ rfl;omega)
 |n+1=>bp zY fun s _ ho=>zZ n s (ho _ rfl) (zX n (vu n))
theorem CT:ag Tryz.prog 72 (p1 (.lst .str) fun l=>⟨some (l.length *16<=140737488355328),none,.bool (decide l.Nodup),[]⟩):=
 bp (ee Tryz.func72) fun l _ ho=>g0 (sc kx (sc (ke) (sc (iY) sn))) a0 Tryz.func72 (FF l (ho _ rfl))
theorem G2:ag Tryz.prog 70 (p1 (.st .decl) fun d=>⟨some (aW d=true),none,.bool (gX d),[]⟩):=
 bp (ee Tryz.func70) fun d _ ho=>g0 (sc ij (sc fP (sc pF (sc (vu 400) (sc nH sn))))) ⟨[],[],[(1,fun S0=>⟨[(3,.bool (noS d.shape))],[]⟩),(3,fun S0=>⟨[(5,.bool (noT d.term))],[]⟩)]⟩ Tryz.func70 (Iw d (ho _ rfl))
theorem CU:ag Tryz.prog 30 (p1 (.st .modu) fun m=>⟨some (m.decls.all aW=true/\m.decls.length<=1000000),none,.int .i64 (cd m),[]⟩):=
 bp (ee Tryz.func30) fun m hm ho=>g0 (sc fP (sc ij (sc tC (sc CO (sc CP (sc G2 (sc CT sn))))))) ⟨[(5,fun S0=>⟨Nat,fun k=>k<=m.imports.length/\m.imports.all nD=(m.imports.drop k).all nD,fun k=>[(3,.lst .str (m.name::(m.imports.take k).map (·.name)) (some 34)),(38,.int .i64 k)],fun k=>[(34,.tail .str (m.name::(m.imports.take k).map (·.name)).length)],fun k=>m.imports.length-k⟩),(13,fun S0=>⟨Nat,fun k=>k<=m.decls.length/\m.decls.all mE=(m.decls.drop k).all mE,fun k=>[(6,.lst .str (kO++(m.decls.take k).map (·.name)) (some 77)),(81,.int .i64 k)],fun k=>[(77,.tail .str (kO++(m.decls.take k).map (·.name)).length)],fun k=>m.decls.length-k⟩),(20,fun S0=>⟨Nat,fun k=>k<=m.exports.length/\m.exports.all lP=(m.exports.drop k).all lP,fun k=>[(102,.int .i64 k)],fun _=>[],fun k=>m.exports.length-k⟩)],[],[]⟩ Tryz.func30 (FH m hm (ho _ rfl))
theorem Aa:aq Tryz.prog 144:=ee Tryz.func144
theorem Ab(n:Nat)(v:Vlu)(l c:Int)(hs:Wf (.st .val) v)(hn:szV v<=n+1)(hc:0<=c/\c<=2000/\1<=l/\l<=c+1)(hA:ag Tryz.prog 144 (ou 234 n)):an Tryz.prog 144 [.st .val v,.int .i64 l,.ptr 900 0] [(900,.box (.int .i64 c))] (BU 234 v l c (szV v<=n+1)):=
 g0 (sc (hA) sn) ⟨[(6,fun S0=>⟨Nat×Int,fun x=>x.1<=v.parts.length/\c+1+(szVL (v.parts.take x.1):Int)<=2000/\deepVL (v.parts.drop x.1) (l+1) x.2=deepV v l,fun x=>[(7,.int .i64 x.2),(25,.int .i64 x.1)],fun x=>[(900,.box (.int .i64 (c+1+(szVL (v.parts.take x.1):Int))))],fun x=>v.parts.length-x.1⟩)],[],[]⟩ Tryz.func144 (Ix n v l c hs hn hc)
theorem mW:∀n:Nat,ag Tryz.prog 144 (ou 234 n)
 |0=>qk Aa fun v l c hs hn hc=>absurd hn (by have:=qN v;omega)
 |n+1=>qk Aa fun v l c hs hn hc=>Ab n v l c hs hn hc (mW n)
theorem xj(v:Vlu)(hs:Wf (.st .val) v) :an Tryz.prog 79 [.st .val v] [] (.ret (.tup [.int .i64 (if szV v<=2000 then(szV v:Int)else 2001),.int .i64 (if szV v<=2000 then deepV v 1 else 0),.bool (decide (szV v<=2000))])):=
 fwpR_sound (C:=⟨tbl,_,fun _=>false,fun _=>[],fun _=>false,fun _=>false,fun _=>false⟩) (ann:=⟨[],[],[]⟩) (annC:=⟨[],[],[]⟩) mixed uY (iA (mW (szV v)) (jl)) Tryz.func79 Tryz.func143 (enters_of Tryz.func143 (by kernel_rfl) rfl) (@Eq.mpr _ _ (by kernel_rfl) (FI v hs))
theorem CV:ag Tryz.prog 79 (p1 (.st .val) fun v=>.ret (.tup [.int .i64 (if szV v<=2000 then(szV v:Int)else 2001),.int .i64 (if szV v<=2000 then deepV v 1 else 0),.bool (decide (szV v<=2000))])):=
 bp (ee Tryz.func79) fun v hs _=>xj v hs
theorem Ac:ag Tryz.prog 295 (pcl .str 66 fun x=>⟨none,none,.bool (!ay x),[]⟩):=
 pj (ee Tryz.func295) fun x _ ho=>g0 (sc fP sn) a0 Tryz.func295 (Cr x)
theorem Ad:ag Tryz.prog 277 (pfc (.lst .str) 295 66 fun l=>⟨none,none,.int .i64 (aF ay l 0),[]⟩):=
 gR (ee Tryz.func277) fun l hl ho=>g0 (sc Ac sn) ⟨[(2,fun S0=>⟨Nat,fun k=>k<=l.length/\aF ay (l.drop k) k=aF ay l 0,fun k=>[(8,.int .i64 k)],fun _=>[],fun k=>l.length-k⟩)],[],[]⟩ Tryz.func277 (Cs l hl)
theorem Ae:ag Tryz.prog 241 (pfc (.lst .str) 295 66 fun l=>⟨none,none,.bool (!l.all ay),[]⟩):=
 gR (ee Tryz.func241) fun l _ ho=>g0 (sc Ad sn) a0 Tryz.func241 (Ct l)
theorem G3:ag Tryz.prog 259 (pf (.lst .str) 66 fun l=>⟨none,none,.bool (l.all ay),[]⟩):=
 kC (ee Tryz.func259) fun l _ ho=>g0 (sc Ae sn) a0 Tryz.func259 (Iy l)
theorem CW:ag Tryz.prog 207 (p1 (.lst .str) fun l=>⟨some (l.length *16<=140737488355328),none,.bool (j8 l),[]⟩):=
 bp (ee Tryz.func207) fun l _ ho=>g0 (sc kx (sc (ke) (sc G3 (sc (iY) sn)))) a0 Tryz.func207 (FJ l (ho _ rfl))
theorem G4:ag Tryz.prog 145 (p1 (.st .val) fun v=>⟨some (v.names.length *16<=140737488355328),none,.bool (bf v),[]⟩):=
 bp (ee Tryz.func145) fun v hs ho=>g0 (sc CW (sc fP (sc ij sn))) a0 Tryz.func145 (Iz v hs (ho _ rfl))
theorem CX:aq Tryz.prog 209:=ee Tryz.func209
theorem uu(n:Nat)(x:Vlu) (ho:szV x<=n/\cA x=true)(hA:ag Tryz.prog 80 (p1 (.st .val) fun v=>⟨some (szV v<=n/\cA v=true),none,.bool (allV bf v),[]⟩)):an Tryz.prog 209 [.st .val x,.ptr 900 0] [(900,.box (.fn 80 []))] (⟨some (szV x<=n/\cA x=true),none,.bool (!(allV bf) x),[]⟩):=
 g0 (sc (hA) sn) a0 Tryz.func209 (Cu n x ho)
theorem Af(n:Nat)(hA:ag Tryz.prog 80 (p1 (.st .val) fun v=>⟨some (szV v<=n/\cA v=true),none,.bool (allV bf v),[]⟩)):ag Tryz.prog 209 (pcl (.st .val) 80 fun x=>⟨some (szV x<=n/\cA x=true),none,.bool (!(allV bf) x),[]⟩):=
 pj CX fun x _ ho=>uu n x (ho _ rfl) hA
theorem CY:aq Tryz.prog 260:=ee Tryz.func260
theorem uv(n:Nat)(l:List Vlu) (hl:Wf (.lst (.st .val)) l)(ho:∀x∈l,szV x<=n/\cA x=true)(hA:ag Tryz.prog 80 (p1 (.st .val) fun v=>⟨some (szV v<=n/\cA v=true),none,.bool (allV bf v),[]⟩)):an Tryz.prog 260 [.lst (.st .val) l none,.fn 209 [.ptr 900 0]] [(900,.box (.fn 80 []))] (⟨some (∀x∈l,szV x<=n/\cA x=true),none,.int .i64 (aF (allV bf) l 0),[]⟩):=
 g0 (sc ((Af n hA)) sn) ⟨[(2,fun S0=>⟨Nat,fun k=>k<=l.length/\aF (allV bf) (l.drop k) k=aF (allV bf) l 0,fun k=>[(8,.int .i64 k)],fun _=>[],fun k=>l.length-k⟩)],[],[]⟩ Tryz.func260 (Cv n l hl ho)
theorem Ag(n:Nat)(hA:ag Tryz.prog 80 (p1 (.st .val) fun v=>⟨some (szV v<=n/\cA v=true),none,.bool (allV bf v),[]⟩)):ag Tryz.prog 260 (pfc (.lst (.st .val)) 209 80 fun l=>⟨some (∀x∈l,szV x<=n/\cA x=true),none,.int .i64 (aF (allV bf) l 0),[]⟩):=
 gR CY fun l hl ho=>uv n l hl (ho _ rfl) hA
theorem CZ:aq Tryz.prog 208:=ee Tryz.func208
theorem uw(n:Nat)(l:List Vlu) (ho:∀x∈l,szV x<=n/\cA x=true)(hA:ag Tryz.prog 80 (p1 (.st .val) fun v=>⟨some (szV v<=n/\cA v=true),none,.bool (allV bf v),[]⟩)):an Tryz.prog 208 [.lst (.st .val) l none,.fn 209 [.ptr 900 0]] [(900,.box (.fn 80 []))] (⟨some (∀x∈l,szV x<=n/\cA x=true),none,.bool (!l.all (allV bf)),[]⟩):=
 g0 (sc ((Ag n hA)) sn) a0 Tryz.func208 (Cw n l ho)
theorem Ah(n:Nat)(hA:ag Tryz.prog 80 (p1 (.st .val) fun v=>⟨some (szV v<=n/\cA v=true),none,.bool (allV bf v),[]⟩)):ag Tryz.prog 208 (pfc (.lst (.st .val)) 209 80 fun l=>⟨some (∀x∈l,szV x<=n/\cA x=true),none,.bool (!l.all (allV bf)),[]⟩):=
 gR CZ fun l _ ho=>uw n l (ho _ rfl) hA
theorem IP:aq Tryz.prog 146:=ee Tryz.func146
theorem Ai(n:Nat)(l:List Vlu) (ho:∀x∈l,szV x<=n/\cA x=true)(hA:ag Tryz.prog 80 (p1 (.st .val) fun v=>⟨some (szV v<=n/\cA v=true),none,.bool (allV bf v),[]⟩)):an Tryz.prog 146 [.lst (.st .val) l none,.fn 80 []] [] (⟨some (∀x∈l,szV x<=n/\cA x=true),none,.bool (l.all (allV bf)),[]⟩):=
 g0 (sc ((Ah n hA)) sn) a0 Tryz.func146 (IA n l ho)
theorem G5(n:Nat)(hA:ag Tryz.prog 80 (p1 (.st .val) fun v=>⟨some (szV v<=n/\cA v=true),none,.bool (allV bf v),[]⟩)):ag Tryz.prog 146 (pf (.lst (.st .val)) 80 fun l=>⟨some (∀x∈l,szV x<=n/\cA x=true),none,.bool (l.all (allV bf)),[]⟩):=
 kC IP fun l _ ho=>Ai n l (ho _ rfl) hA
theorem tE:aq Tryz.prog 80:=ee Tryz.func80
theorem uz(n:Nat)(v:Vlu)(hs:Wf (.st .val) v)(ho:szV v<=n+1/\cA v=true)(hE:ag Tryz.prog 146 (pf (.lst (.st .val)) 80 fun l=>⟨some (∀x∈l,szV x<=n/\cA x=true),none,.bool (l.all (allV bf)),[]⟩)):an Tryz.prog 80 [.st .val v] [] (⟨some (szV v<=n+1/\cA v=true),none,.bool (allV bf v),[]⟩):=
 g0 (sc G4 (sc (hE) sn)) a0 Tryz.func80 (Cx n v hs ho)
theorem kJ:∀n:Nat,ag Tryz.prog 80 (p1 (.st .val) fun v=>⟨some (szV v<=n/\cA v=true),none,.bool (allV bf v),[]⟩)
 |0=>bp tE fun v _ ho=>absurd (ho _ rfl).1 (by have:=qN v;omega)
 |n+1=>bp tE fun v hs ho=>uz n v hs (ho _ rfl) (G5 n (kJ n))
theorem D0:ag Tryz.prog 40 (p1 (.st .val) fun v=>⟨some (cA v=true),none,.int .i64 (ow v),[]⟩):=
 bp (ee Tryz.func40) fun v hs ho=>g0 (sc CV (sc (kJ 2000) sn)) a0 Tryz.func40 (FK v hs (ho _ rfl))
theorem lQ:ag Tryz.prog 32 (p4 (.pt .scope) .str .str (.st .thing) fun s o n w=>.ret (.pt .scope (eC s o n w))):=
 Ml (ee Tryz.func32) fun s o n w hs ho hn _=>g1 nn (fun _=>[]) nn (fun d=>Nat.beq d 14) nn sn a0 Tryz.func32 (Kr s o n w hs ho hn)
theorem IQ:ag Tryz.prog 62 (p3 (.pt .scope) .str .str fun s o n=>.ret (.pt .scope (findF s o n))):=
 GX (ee Tryz.func62) fun s o n hs ho hn _=>g0 sn ⟨[(1,fun S0=>⟨Option Scp,fun x=>findF x o n=findF s o n,fun x=>[(0,.pt .scope x)],fun _=>[],fun x=>BR x⟩)],[],[]⟩ Tryz.func62 (Ks s o n hs ho hn)
theorem vv:ag Tryz.prog 61 (p1 .bool fun b=>.ret (.st .thing (pw b))):=
 bp (ee Tryz.func61) fun b _ _=>g0 sn a0 Tryz.func61 (IB b)
theorem iJ:ag Tryz.prog 31 (p2 (.int .i64) (.int .i64) fun e a=>⟨none,some (true,.iface 110 (.agg [.int .i64 e,.int .i64 a]),[]),.tup [],[]⟩):=
 cP (ee Tryz.func31) fun e a _ _ _=>g0 sn a0 Tryz.func31 (Kt e a)
theorem IS:ag Tryz.prog 188 (p3 (.int .i64) (.lst (.st .thing)) (.int .i64) fun k l a=>⟨none,some (!eH k l,.iface 110 (.agg [.int .i64 291,.int .i64 a]),[]),.tup [],[]⟩):=
 GX (ee Tryz.func188) fun k l a _ hl _ _=>g0 (sc iJ sn) ⟨[(1,fun S0=>⟨Nat,fun i=>i<=l.length/\eH k (l.take i)=true,fun i=>[(10,.int .i64 i)],fun _=>[],fun i=>l.length-i⟩)],[],[]⟩ Tryz.func188 (Ku k l a hl)
theorem G6:ag Tryz.prog 122 (p3 .str (.lst (.st .thing)) (.int .i64) fun nm l a=>bsA 110 ((gj nm l a).isSome=true) (dy (gj nm l a))):=
 GX (ee Tryz.func122) fun nm l a hnm hl ha ho=>g1 nn (fun _=>[]) nn (fun d=>Nat.beq d 32||Nat.beq d 98||Nat.beq d 104||Nat.beq d 110) nn (sc iJ (sc IS (sc vv (sc (uc) sn)))) a0 Tryz.func122 (IC nm l a hnm hl ha (ho _ rfl))
theorem KE:aq Tryz.prog 64:=ee Tryz.func64
theorem D1(n:Nat)(l:List Trm)(p:Plc)(st mo:Int)(hl:Wf (.lst (.st .term)) l)(hp:Wf (.st .plc) p)(ho:(bn (fun x=>ao mo n x p) l st).isSome=true)(hE:ag Tryz.prog 27 (pE (.pt .term) fun t p st mo=>kn 110 mo (t.isSome=true/\(ao mo n (t.getD default) p st).isSome=true) (dy (ao mo n (t.getD default) p st)))):an Tryz.prog 64 [.ptr 900 0,.lst (.st .term) l none,.st .plc p] (F9 st mo) (evLA 110 mo ((bn (fun x=>ao mo n x p) l st).isSome=true) (Fa (bn (fun x=>ao mo n x p) l st))):=
 g0 (sc (hE) sn) ⟨[(3,fun S0=>⟨Nat×List Thg×Int,fun x=>x.1<=l.length/\x.2.1.length=x.1/\gS (fun y=>ao mo n y p) (l.drop x.1) x.2.1 x.2.2=bn (fun x=>ao mo n x p) l st,fun x=>[(14,.int .i64 x.1),(7,.lst (.st .thing) x.2.1 (some 11))],fun x=>[(11,.tail (.st .thing) x.2.1.length),(900,.box (.agg [.int .i64 x.2.2,.int .i64 mo]))],fun x=>l.length-x.1⟩)],[],[]⟩ Tryz.func64 (Kv n l p st mo hl hp ho)
theorem IT(n:Nat)(hE:ag Tryz.prog 27 (pE (.pt .term) fun t p st mo=>kn 110 mo (t.isSome=true/\(ao mo n (t.getD default) p st).isSome=true) (dy (ao mo n (t.getD default) p st)))):ag Tryz.prog 64 (pE (.lst (.st .term)) fun l p st mo=>evLA 110 mo ((bn (fun x=>ao mo n x p) l st).isSome=true) (Fa (bn (fun x=>ao mo n x p) l st))):=
 DK KE fun l p st mo hl hp ho=>D1 n l p st mo hl hp (ho _ rfl) hE
theorem IU:aq Tryz.prog 63:=ee Tryz.func63
theorem Aj(n:Nat)(t:Trm)(l:List Thg)(st mo:Int)(ht:Wf (.st .term) t)(hl:Wf (.lst (.st .thing)) l)(ho:(fO (ao mo n) mo t.pos l st).isSome=true)(hE:ag Tryz.prog 27 (pE (.pt .term) fun t p st mo=>kn 110 mo (t.isSome=true/\(ao mo n (t.getD default) p st).isSome=true) (dy (ao mo n (t.getD default) p st)))):an Tryz.prog 63 [.ptr 900 0,.pt .term (some t),.lst (.st .thing) l none] (F9 st mo) (kn 110 mo ((fO (ao mo n) mo t.pos l st).isSome=true) (dy (fO (ao mo n) mo t.pos l st))):=
 g0 (sc (hE) (sc iJ (sc G6 (sc (lQ) sn)))) ⟨[(11,fun S0=>⟨Nat×Option Scp,fun x=>x.1<=(fcn l).names.length/\da x.2 ((fcn l).names.drop x.1) (l.drop (x.1+1))=da (fcn l).scp (fcn l).names (l.drop 1),fun x=>[(78,.int .i64 x.1)],fun x=>[(8,.box (.agg [.pt .scope x.2,.str (fcn l).self]))],fun x=>(fcn l).names.length-x.1⟩)],[],[]⟩ Tryz.func63 (ID n t l st mo ht hl ho)
theorem G7(n:Nat)(hE:ag Tryz.prog 27 (pE (.pt .term) fun t p st mo=>kn 110 mo (t.isSome=true/\(ao mo n (t.getD default) p st).isSome=true) (dy (ao mo n (t.getD default) p st)))):ag Tryz.prog 63 (pEc fun t l st mo=>kn 110 mo ((fO (ao mo n) mo t.pos l st).isSome=true) (dy (fO (ao mo n) mo t.pos l st))):=
 LF IU fun t l st mo ht hl ho=>Aj n t l st mo ht hl (ho _ rfl) hE
theorem D2:aq Tryz.prog 65:=ee Tryz.func65
theorem uA(n:Nat)(t:Trm)(p:Plc)(st mo:Int)(ht:Wf (.st .term) t)(hp:Wf (.st .plc) p)(ho:(gr (ao mo n) t p st).isSome=true)(hE:ag Tryz.prog 27 (pE (.pt .term) fun t p st mo=>kn 110 mo (t.isSome=true/\(ao mo n (t.getD default) p st).isSome=true) (dy (ao mo n (t.getD default) p st)))):an Tryz.prog 65 [.ptr 900 0,.pt .term (some t),.st .plc p] (F9 st mo) (kn 110 mo ((gr (ao mo n) t p st).isSome=true) (dy (gr (ao mo n) t p st))):=
 g0 (sc (hE) (sc iJ (sc (tu) (sc (lQ) sn)))) a0 Tryz.func65 (Cy n t p st mo ht hp ho)
theorem Ak(n:Nat)(hE:ag Tryz.prog 27 (pE (.pt .term) fun t p st mo=>kn 110 mo (t.isSome=true/\(ao mo n (t.getD default) p st).isSome=true) (dy (ao mo n (t.getD default) p st)))):ag Tryz.prog 65 (pE (.pt .term) fun t p st mo=>kn 110 mo (t.isSome=true/\(gr (ao mo n) (t.getD default) p st).isSome=true) (dy (gr (ao mo n) (t.getD default) p st))):=
 DK D2 fun t p st mo ht hp ho=>by obtain⟨h1,h2⟩:=ho _ rfl;obtain⟨x,rfl⟩:=Nz.1 h1;exact uA n x p st mo (Wf.pt ht) hp h2 hE
theorem Al:aq Tryz.prog 27:=ee Tryz.func27
theorem Am(n:Nat)(t:Trm)(p:Plc)(st mo:Int)(ht:Wf (.st .term) t)(hp:Wf (.st .plc) p)(ho:(ao mo (n+1) t p st).isSome=true)(hE:ag Tryz.prog 27 (pE (.pt .term) fun t p st mo=>kn 110 mo (t.isSome=true/\(ao mo n (t.getD default) p st).isSome=true) (dy (ao mo n (t.getD default) p st)))):an Tryz.prog 27 [.ptr 900 0,.pt .term (some t),.st .plc p] (F9 st mo) (kn 110 mo ((ao mo (n+1) t p st).isSome=true) (dy (ao mo (n+1) t p st))):=
 g1 nn (fun _=>[]) nn (fun d=>Nat.beq d 78) nn (sc (hE) (sc iJ (sc vv (sc IQ (sc (lQ) (sc (IT n hE) (sc (G7 n hE) (sc (Ak n hE) sn)))))))) a0 Tryz.func27 (IE n t p st mo ht hp ho)
theorem pG:∀n:Nat,ag Tryz.prog 27 (pE (.pt .term) fun t p st mo=>kn 110 mo (t.isSome=true/\(ao mo n (t.getD default) p st).isSome=true) (dy (ao mo n (t.getD default) p st)))
 |0=>DK Al fun t p st mo ht hp ho=>absurd (ho _ rfl).2 (by show ¬(none:Option Ev).isSome=true;decide)
 |n+1=>DK Al fun t p st mo ht hp ho=>by obtain⟨h1,h2⟩:=ho _ rfl;obtain⟨x,rfl⟩:=Nz.1 h1;exact Am n x p st mo (Wf.pt ht) hp h2 (pG n)
theorem tF:ag Tryz.prog 28 (p0 (.ret (.pt .scope bN))):=
 L2 (ee Tryz.func28) (g1 nn (fun _=>[]) nn (fun d=>Nat.beq d 16||Nat.beq d 30) nn (sc (lQ) sn) ⟨[(3,fun S0=>⟨Nat,fun k=>k<=7,fun k=>[(8,.int .i64 k),(1,.pt .scope ((two.take k).foldl (kF 2) none))],fun _=>[],fun k=>7-k⟩),(8,fun S0=>⟨Nat,fun k=>k<=3,fun k=>[(22,.int .i64 k),(1,.pt .scope ((js.take k).foldl (kF 1) (two.foldl (kF 2) none)))],fun _=>[],fun k=>3-k⟩)],[],[]⟩ Tryz.func28 (FL))
theorem E8:aq Tryz.prog 39:=ee Tryz.func39
theorem D3(n:Nat)(x:Thg)(r:Int)(hx:Wf (.st .thing) x)(ho:(dD (n+1) x r).isSome=true)(hA:ag Tryz.prog 39 (mq n)):an Tryz.prog 39 [.st .thing x,.ptr 900 0] [(900,.box (.int .i64 r))] (HD ((dD (n+1) x r).isSome=true) (BV (dD (n+1) x r))):=
 g0 (sc (F1) (sc (hA) sn)) ⟨[(8,fun S0=>⟨Nat×List Vlu×Int,fun y=>y.1<=x.parts.length/\y.2.1.length=y.1/\iC (dD n) (x.parts.drop y.1) y.2.1 y.2.2=iC (dD n) x.parts [] (r-1),fun y=>[(45,.int .i64 y.1)],fun y=>[(6,.box (.agg [.int .i64 x.kind,.int .i64 (fnN x),.str x.pkg,.str x.text,.lst .str x.names none,.lst (.st .val) y.2.1 (some 701)])),(701,.tail (.st .val) y.2.1.length),(900,.box (.int .i64 y.2.2))],fun y=>x.parts.length-y.1⟩)],[],[(100007,fun S0=>⟨[],[(6,.box (.agg [.int .i64 x.kind,.int .i64 (fnN x),.str x.pkg,.str x.text,.lst .str x.names none,.nils]))]⟩)]⟩ Tryz.func39 (Kw n x r hx ho)
theorem tG:∀n:Nat,ag Tryz.prog 39 (mq n)
 |0=>ta E8 fun x r hx ho=>by cases ho
 |n+1=>ta E8 fun x r hx ho=>D3 n x r hx ho (tG n)
theorem G8:aq Tryz.prog 18:=ee Tryz.func18
theorem xk(m:Nat)(x:Thg)(a:Int)(hx:Wf (.st .thing) x)(ho:(cb m x a).isSome=true)(hA:ag Tryz.prog 39 (mq m)):an Tryz.prog 18 [.st .thing x,.int .i64 a] [] (swA 110 ((cb m x a).isSome=true) (uf (cb m x a))):=
 g0 (sc (hA) (sc (D0) (sc iJ sn))) a0 Tryz.func18 (FM m x a hx ho)
theorem tH(m:Nat)(hA:ag Tryz.prog 39 (mq m)):ag Tryz.prog 18 (p2 (.st .thing) (.int .i64) fun x a=>swA 110 ((cb m x a).isSome=true) (uf (cb m x a))):=
 cP G8 fun x a hx _ ho=>xk m x a hx (ho _ rfl) hA
theorem KF:aq Tryz.prog 26:=ee Tryz.func26
theorem D4(n m:Nat)(t:Trm)(mo:Int)(ht:Wf (.st .term) t)(ho:(gl n m t mo).isSome=true)(hE:ag Tryz.prog 27 (pE (.pt .term) fun t p st mo=>kn 110 mo (t.isSome=true/\(ao mo n (t.getD default) p st).isSome=true) (dy (ao mo n (t.getD default) p st))))(hS:ag Tryz.prog 18 (p2 (.st .thing) (.int .i64) fun x a=>swA 110 ((cb m x a).isSome=true) (uf (cb m x a)))):an Tryz.prog 26 [.ptr 900 0,.cptr (.st .term t),.ptr 901 0] (rnS 0 mo) (LK 110 mo ((gl n m t mo).isSome=true) (oz (gl n m t mo))):=
 g0 (sc (tF) (sc (hE) (sc (hS) sn))) a0 Tryz.func26 (Kx n m t mo ht ho)
theorem IV(n m:Nat)(hE:ag Tryz.prog 27 (pE (.pt .term) fun t p st mo=>kn 110 mo (t.isSome=true/\(ao mo n (t.getD default) p st).isSome=true) (dy (ao mo n (t.getD default) p st))))(hS:ag Tryz.prog 18 (p2 (.st .thing) (.int .i64) fun x a=>swA 110 ((cb m x a).isSome=true) (uf (cb m x a)))):ag Tryz.prog 26 (yQ 110 n m):=
 HE KF fun t mo ht ho=>D4 n m t mo ht ho hE hS
theorem G9:aq Tryz.prog 15:=ee Tryz.func15
theorem xm(n m:Nat)(t:Trm)(mo:Int)(ht:Wf (.st .term) t)(ho:(gl n m t mo).isSome=true)(hA:ag Tryz.prog 26 (yQ 110 n m)):an Tryz.prog 15 [.fn 26 [.ptr 900 0,.cptr (.st .term t),.ptr 901 0]] (rnS 0 mo) (LL mo ((gl n m t mo).isSome=true) (oz (gl n m t mo))):=
 fwpR_sound (C:=⟨tbl,_,fun _=>false,fun _=>[],fun _=>false,fun _=>false,fun _=>false⟩) (ann:=⟨[],[],[]⟩) (annC:=⟨[],[],[]⟩) mixed uY (iA (hA) (jl)) Tryz.func15 Tryz.func29 (enters_of Tryz.func29 (by kernel_rfl) rfl) (@Eq.mpr _ _ (by kernel_rfl) (FN n m t mo ht ho))
theorem D5(n m:Nat)(hA:ag Tryz.prog 26 (yQ 110 n m)):ag Tryz.prog 15 (K2 26 n m):=
 K3 G9 fun t mo ht ho=>xm n m t mo ht ho hA
theorem Ga(n m:Nat)(t:Trm)(k:Int)(ht:Wf (.st .term) t)(hk:Wf (.int .i64) k)(hf:bR t=true)(ho:(qv n m t k).isSome=true)(hC:ag Tryz.prog 15 (K2 26 n m)):an Tryz.prog 14 [.st .term t,.int .i64 k] [] (⟨some (bR t=true/\(qv n m t k).isSome=true),none,.tup [.st .val (oz (qv n m t k)).v,.int .i64 (oz (qv n m t k)).st,.st .fault (oz (qv n m t k)).f],[]⟩):=
 g0 (sc (nH) (sc (hC) sn)) ⟨[],[(8,[2])],[]⟩ Tryz.func14 (M0 n m t k ht hk hf ho)
theorem tI:aq Tryz.prog 21:=ee Tryz.func21
theorem uB(n:Nat)(a:Vlu)(ha:Wf (.st .val) a)(hz:szV a<=n+1)(hA:ag Tryz.prog 21 (p2 (.st .val) (.st .val) fun a b=>⟨some (a=b/\szV a<=n),none,.bool true,[]⟩)):an Tryz.prog 21 [.st .val a,.st .val a] [] (.ret (.bool true)):=
 g0 (sc (hA) sn) ⟨[(4,fun S0=>⟨Nat,fun k=>k<=a.names.length,fun k=>[(5,.int .i64 k)],fun _=>[],fun k=>a.names.length-k⟩),(9,fun S0=>⟨Nat,fun k=>k<=a.parts.length,fun k=>[(6,.int .i64 k)],fun _=>[],fun k=>a.parts.length-k⟩)],[],[]⟩ Tryz.func21 (Cz n a ha hz)
theorem kK:∀n:Nat,ag Tryz.prog 21 (p2 (.st .val) (.st .val) fun a b=>⟨some (a=b/\szV a<=n),none,.bool true,[]⟩)
 |0=>cP tI fun a b _ _ ho=>absurd (ho _ rfl).2 (by have:=qN a;omega)
 |n+1=>cP tI fun a b ha _ ho=>by obtain⟨rfl,h⟩:=ho _ rfl;exact uB n a ha h (kK n)
theorem E9:ag Tryz.prog 35 (Cd fun x m=>⟨none,none,.bool (!inX m x),[]⟩):=
 Fi (ee Tryz.func35) fun x m _=>g0 (sc mV sn) a0 Tryz.func35 (M1 x m)
theorem IW:ag Tryz.prog 74 (qQ 35 fun s xs m=>⟨some (xs.length<=1000000),none,.int .i64 (aF (inX m) xs 0),[]⟩):=
 tp (ee Tryz.func74) (fun _ _ _=>rfl) fun s xs m hl=>g0 (sc E9 sn) ⟨[(2,fun S0=>⟨Nat,fun k=>k<=xs.length/\aF (inX m) (xs.drop k) k=aF (inX m) xs 0,fun k=>[(8,.int .i64 k)],fun _=>[],fun k=>xs.length-k⟩)],[],[]⟩ Tryz.func74 (Ky s xs m hl)
theorem IX:ag Tryz.prog 34 (qQ 35 fun s xs m=>⟨some (xs.length<=1000000),none,.glst (ze m s xs) (dX m xs).length 900,[(900,.grow (.st .exp) (ze m s xs) (dX m xs))]⟩):=
 tp (ee Tryz.func34) (fun _ _ _=>rfl) fun s xs m hl=>g0 (sc E9 (sc IW sn)) ⟨[(5,fun S0=>⟨Nat×Nat×List Exp,fun x=>x.1<x.2.1/\x.2.1<=xs.length/\x.2.2.length=xs.length/\xs.all (inX m)=false/\x.2.2.take x.1=dX m (xs.take x.2.1)/\x.2.2.drop x.2.1=xs.drop x.2.1,fun x=>[(5,.int .i64 x.1),(6,.int .i64 x.2.1)],fun x=>[(900,.grow (.st .exp) s x.2.2)],fun x=>xs.length-x.2.1⟩)],[],[]⟩ Tryz.func34 (Kz s xs m hl)
theorem KG:aq Tryz.prog 17:=ee Tryz.func17
theorem D6(n:Nat)(m:Modu)(ah:Ahd)(st mo:Int)(e:MdE)(hm:Wf (.st .modu) m)(ho:(m.decls.all aW=true/\m.decls.length<=1000000)/\(∀x∈ah,x.2.length<=1000000))(he:iH (ao mo n) m ah st=some e)(hE:ag Tryz.prog 27 (pE (.pt .term) fun t p st mo=>kn 110 mo (t.isSome=true/\(ao mo n (t.getD default) p st).isSome=true) (dy (ao mo n (t.getD default) p st)))):an Tryz.prog 17 [.ptr 900 0,.pt .modu (some m),.map 901] (mdS st mo ah) (mdA 110 mo (((m.decls.all aW=true/\m.decls.length<=1000000)/\(∀x∈ah,x.2.length<=1000000))/\(iH (ao mo n) m ah st).isSome=true) e):=
 g1 nn (fun _=>[]) nn (fun d=>Nat.beq d 124) nn (sc (CU) (sc iJ (sc (tF) (sc (lQ) (sc (hE) (sc mV (sc IX (sc (Fj) sn)))))))) ⟨[(6,fun S0=>⟨Nat×Option Scp,fun x=>x.1<=m.imports.length/\eJ ah (m.imports.drop x.1) x.2=eJ ah m.imports bN,fun x=>[(36,.int .i64 x.1),(8,.pt .scope x.2)],fun _=>[],fun x=>m.imports.length-x.1⟩),(12,fun S0=>pN S0 36 fun i=>⟨Nat×Option Scp,fun x=>∃l,bX (K:=Str) ah (m.imports.getD i.toNat (dfl (.st .imp))).name=some l/\x.1<=l.length/\eJ ah (m.imports.drop (i.toNat+1)) ((l.drop x.1).foldl (DY (m.imports.getD i.toNat (dfl (.st .imp))).name) x.2)=eJ ah m.imports bN,fun x=>[(54,.int .i64 x.1),(8,.pt .scope x.2)],fun _=>[],fun x=>((bX (K:=Str) ah (m.imports.getD i.toNat (dfl (.st .imp))).name).getD []).length-x.1⟩),(20,fun S0=>⟨(Nat×Option Scp)×(List Exp×Int),fun x=>x.1.1<=m.decls.length/\x.2.1.length<=x.1.1/\cK (ao mo n) m.name (m.decls.drop x.1.1) x.1.2 x.2.1 x.2.2=cK (ao mo n) m.name m.decls (eJ ah m.imports bN).s [] st,fun x=>[(73,.int .i64 x.1.1),(8,.pt .scope x.1.2),(16,.lst .str ((m.decls.take x.1.1).map (·.name)) (some 702)),(15,.glst x.2.1.length x.2.1.length 701)],fun x=>[(702,.tail .str (m.decls.take x.1.1).length),(701,.grow (.st .exp) x.2.1.length x.2.1),(900,.box (.agg [.int .i64 x.2.2,.int .i64 mo]))],fun x=>m.decls.length-x.1.1⟩),(30,fun S0=>⟨Nat,fun k=>k<=m.exports.length/\((m.exports.take k).all fun s=>decide (s∈m.decls.map (·.name)))=true,fun k=>[(131,.int .i64 k)],fun _=>[],fun k=>m.exports.length-k⟩)],[(400037,[701,15])],[]⟩ Tryz.func17 (KA n m ah st mo e hm ho he)
theorem IY(n:Nat)(hE:ag Tryz.prog 27 (pE (.pt .term) fun t p st mo=>kn 110 mo (t.isSome=true/\(ao mo n (t.getD default) p st).isSome=true) (dy (ao mo n (t.getD default) p st)))):ag Tryz.prog 17 (pMd fun m ah st mo=>mdA 110 mo (((m.decls.all aW=true/\m.decls.length<=1000000)/\(∀x∈ah,x.2.length<=1000000))/\(iH (ao mo n) m ah st).isSome=true) (oB (iH (ao mo n) m ah st))):=
 LS KG fun m ah st mo hm ho=>D6 n m ah st mo _ hm (ho _ rfl).1 (I1 (ho _ rfl).2) hE
theorem IZ:aq Tryz.prog 16:=ee Tryz.func16
theorem Ao(n m:Nat)(l:List Modu)(mo:Int)(p:Prg)(hl:Wf (.lst (.st .modu)) l)(ho:(∀x∈l,x.decls.all aW=true/\x.decls.length<=1000000))(hp:dm n m l mo=some p)(hE:ag Tryz.prog 27 (pE (.pt .term) fun t p st mo=>kn 110 mo (t.isSome=true/\(ao mo n (t.getD default) p st).isSome=true) (dy (ao mo n (t.getD default) p st))))(hS:ag Tryz.prog 18 (p2 (.st .thing) (.int .i64) fun x a=>swA 110 ((cb m x a).isSome=true) (uf (cb m x a)))):an Tryz.prog 16 [.cptr (.lst (.st .modu) l none),.ptr 900 0,.ptr 901 0] (prS 0 mo) (Kc 110 mo ((∀x∈l,x.decls.all aW=true/\x.decls.length<=1000000)/\(dm n m l mo).isSome=true) p):=
 g0 (sc (IY n hE) (sc (hS) sn)) ⟨[(3,fun S0=>⟨(Nat×Ahd)×(List Exp×Int),fun x=>x.1.1<=l.length/\(∀y∈x.1.2,y.2.length<=1000000)/\x.2.1.length<=1000000/\dE (ao mo n) (l.drop x.1.1) x.1.2 x.2.1 x.2.2=dE (ao mo n) l [] [] 0,fun x=>[(11,.int .i64 x.1.1),(4,.lst (.st .exp) x.2.1 none)],fun x=>[(8,.map .str (.lst (.st .exp)) x.1.2),(902,.box (.agg [.int .i64 x.2.2,.int .i64 mo]))],fun x=>l.length-x.1.1⟩),(9,fun S0=>⟨Nat×List Cel,fun x=>x.1<=(oB (dE (ao mo n) l [] [] 0)).l.length/\x.2.length<=x.1/\dY m ((oB (dE (ao mo n) l [] [] 0)).l.drop x.1) x.2=dY m (oB (dE (ao mo n) l [] [] 0)).l [],fun x=>[(30,.int .i64 x.1)],fun x=>[(901,.box (.lst (.st .cell) x.2 (some 701))),(701,.tail (.st .cell) x.2.length)],fun x=>(oB (dE (ao mo n) l [] [] 0)).l.length-x.1⟩)],[],[]⟩ Tryz.func16 (IF n m l mo p hl ho hp)
def MO(n m:Nat):=zl fun l mo=>Kc 110 mo ((∀x∈l,x.decls.all aW=true/\x.decls.length<=1000000)/\(dm n m l mo).isSome=true) (jF (dm n m l mo))
theorem Gb(n m:Nat)(hE:ag Tryz.prog 27 (pE (.pt .term) fun t p st mo=>kn 110 mo (t.isSome=true/\(ao mo n (t.getD default) p st).isSome=true) (dy (ao mo n (t.getD default) p st))))(hS:ag Tryz.prog 18 (p2 (.st .thing) (.int .i64) fun x a=>swA 110 ((cb m x a).isSome=true) (uf (cb m x a)))):ag Tryz.prog 16 (MO n m):=
 I2 IZ fun l mo hl ho=>Ao n m l mo _ hl (ho _ rfl).1 (wU (ho _ rfl).2) hE hS
theorem KH:aq Tryz.prog 15:=ee Tryz.func15
theorem D7(n m:Nat)(l:List Modu)(mo:Int)(p:Prg)(hl:Wf (.lst (.st .modu)) l)(ho:(∀x∈l,x.decls.all aW=true/\x.decls.length<=1000000))(hp:dm n m l mo=some p)(hA:ag Tryz.prog 16 (MO n m)):an Tryz.prog 15 [.fn 16 [.cptr (.lst (.st .modu) l none),.ptr 900 0,.ptr 901 0]] (prS 0 mo) (Kd mo ((∀x∈l,x.decls.all aW=true/\x.decls.length<=1000000)/\(dm n m l mo).isSome=true) p):=
 fwpR_sound (C:=⟨tbl,_,fun _=>false,fun _=>[],fun _=>false,fun _=>false,fun _=>false⟩) (ann:=⟨[],[],[]⟩) (annC:=⟨[],[],[]⟩) mixed uY (iA (hA) (jl)) Tryz.func15 Tryz.func29 (enters_of Tryz.func29 (by kernel_rfl) rfl) (@Eq.mpr _ _ (by kernel_rfl) (KB n m l mo p hl ho hp))
def MP(n m:Nat):=zm 16 fun l mo=>Kd mo ((∀x∈l,x.decls.all aW=true/\x.decls.length<=1000000)/\(dm n m l mo).isSome=true) (jF (dm n m l mo))
theorem J0(n m:Nat)(hA:ag Tryz.prog 16 (MO n m)):ag Tryz.prog 15 (MP n m):=
 I3 KH fun l mo hl ho=>D7 n m l mo _ hl (ho _ rfl).1 (wU (ho _ rfl).2) hA
theorem KI:aq Tryz.prog 8:=ee Tryz.func8
theorem D8(n m:Nat)(l:List Modu)(k:Int)(p:Prg)(hl:Wf (.lst (.st .modu)) l)(hk:Wf (.int .i64) k)(ho:(∀x∈l,x.decls.all aW=true/\x.decls.length<=1000000))(hp:dH n m l k=some p)(hC:ag Tryz.prog 15 (MP n m)):an Tryz.prog 8 [.lst (.st .modu) l none,.int .i64 k] [] (⟨some ((∀x∈l,x.decls.all aW=true/\x.decls.length<=1000000)/\(dH n m l k).isSome=true),none,.tup [.lst (.st .cell) p.l none,.int .i64 p.st,.st .fault p.f],[]⟩):=
 g0 (sc (hC) sn) ⟨[],[(5,[2])],[]⟩ Tryz.func8 (KC n m l k p hl hk ho hp)
theorem J1(n m:Nat)(hC:ag Tryz.prog 15 (MP n m)):ag Tryz.prog 8 (p2 (.lst (.st .modu)) (.int .i64) fun l k=>⟨some ((∀x∈l,x.decls.all aW=true/\x.decls.length<=1000000)/\(dH n m l k).isSome=true),none,.tup [.lst (.st .cell) (jF (dH n m l k)).l none,.int .i64 (jF (dH n m l k)).st,.st .fault (jF (dH n m l k)).f],[]⟩):=
 cP KI fun l k hl hk ho=>D8 n m l k _ hl hk (ho _ rfl).1 (wU (ho _ rfl).2) hC
theorem uC(l:List Modu)(N:Nat)(hl:Wf (.lst (.st .modu)) l)(ho:∀m∈l,m.imports.length<=1048576)(hN:∀m∈l,∀d∈m.decls,sz d.shape<=N/\szT d.term<=N) :an Tryz.prog 6 [.lst (.st .modu) l none] [] (⟨some (∀m∈l,m.imports.length<=1048576),none,.bool (lgM l 0),[]⟩):=
 g0 (sc (IK N) (sc (FZ N) sn)) ⟨[(3,fun S0=>⟨Nat×Int,fun x=>x.1<=l.length/\0<=x.2/\x.2<=600/\lgM (l.drop x.1) x.2=lgM l 0,fun x=>[(3,.int .i64 x.2),(4,.int .i64 x.1)],fun _=>[],fun x=>l.length-x.1⟩),(9,fun S0=>pN S0 4 fun i=>⟨Nat×Int,fun x=>x.1<=(l.getD i.toNat (dfl (.st .modu))).decls.length/\0<=x.2/\x.2<=600/\lgA (lgD ((l.getD i.toNat (dfl (.st .modu))).decls.drop x.1) x.2) (l.getD i.toNat (dfl (.st .modu))) (lgM (l.drop (i.toNat+1)))=lgM l 0,fun x=>[(3,.int .i64 x.2),(5,.int .i64 x.1)],fun _=>[],fun x=>(l.getD i.toNat (dfl (.st .modu))).decls.length-x.1⟩),(15,fun S0=>pN S0 4 fun i=>pN S0 3 fun n=>⟨Nat,fun k=>k<=(l.getD i.toNat (dfl (.st .modu))).imports.length/\(((l.getD i.toNat (dfl (.st .modu))).imports.drop k).all lgI&&lgM (l.drop (i.toNat+1)) n)=lgM l 0,fun k=>[(6,.int .i64 k)],fun _=>[],fun k=>(l.getD i.toNat (dfl (.st .modu))).imports.length-k⟩),(21,fun S0=>pN S0 4 fun i=>pN S0 3 fun n=>pN S0 6 fun k=>⟨Nat,fun j=>j<=((l.getD i.toNat (dfl (.st .modu))).imports.getD k.toNat (dfl (.st .imp))).range.length/\(lgR (((l.getD i.toNat (dfl (.st .modu))).imports.getD k.toNat (dfl (.st .imp))).range.drop j)&&(((l.getD i.toNat (dfl (.st .modu))).imports.drop (k.toNat+1)).all lgI&&lgM (l.drop (i.toNat+1)) n))=lgM l 0,fun j=>[(8,.int .i64 j)],fun _=>[],fun j=>((l.getD i.toNat (dfl (.st .modu))).imports.getD k.toNat (dfl (.st .imp))).range.length-j⟩)],[],[]⟩ Tryz.func6 (CA l N hl ho hN)
theorem Ap:ag Tryz.prog 6 (p1 (.lst (.st .modu)) fun l=>⟨some (∀m∈l,m.imports.length<=1048576),none,.bool (lgM l 0),[]⟩):=
 bp (ee Tryz.func6) fun l hl ho=>uC l (szM l) hl (ho _ rfl) (Ia l)
theorem xn(l:List Cel)(hl:Wf (.lst (.st .cell)) l)(hz:kH l) :an Tryz.prog 10 [.lst (.st .cell) l none,.lst (.st .cell) l none] [] (⟨some (l=l/\kH l),none,.bool true,[]⟩):=
 g0 (sc (kK 2000) sn) ⟨[(4,fun S0=>⟨Nat,fun k=>k<=l.length,fun k=>[(5,.int .i64 k)],fun _=>[],fun k=>l.length-k⟩)],[],[]⟩ Tryz.func10 (FO l hl hz)
theorem D9:ag Tryz.prog 10 (p2 (.lst (.st .cell)) (.lst (.st .cell)) fun a b=>⟨some (a=b/\kH a),none,.bool true,[]⟩):=
 cP (ee Tryz.func10) fun a b ha _ ho=>by obtain⟨rfl,h⟩:=ho _ rfl;exact xn a ha h
theorem pH(l:List Modu)(m:Modu)(k:Int)(hl:Wf (.lst (.st .modu)) l)(hm:Wf (.st .modu) m)(hk:Wf (.int .i64) k)(hs:∀x∈m::l,x.decls.all aW=true)(hi:∀x∈m::l,x.imports.length<=1048576)(hR:ag Tryz.prog 8 (p2 (.lst (.st .modu)) (.int .i64) fun l k=>⟨some ((∀x∈l,x.decls.all aW=true/\x.decls.length<=1000000)/\(dH dF 2001 l k).isSome=true),none,.tup [.lst (.st .cell) (jF (dH dF 2001 l k)).l none,.int .i64 (jF (dH dF 2001 l k)).st,.st .fault (jF (dH dF 2001 l k)).f],[]⟩))(hW:ag Tryz.prog 7 (p0 (.ret (.bool true)))):an Tryz.prog 5 [.lst (.st .modu) l none,.st .modu m,.int .i64 k] [] (.ret (.bool true)):=
 g0 (sc (hW) (sc Ap (sc (hR) (sc D9 sn)))) ⟨[(4,fun S0=>⟨Nat,fun i=>i<=l.length/\∀x∈l.take i,∀y∈x.imports,y.name≠m.name,fun i=>[(7,.int .i64 i)],fun _=>[],fun i=>l.length-i⟩),(7,fun S0=>pN S0 7 fun i=>⟨Nat,fun j=>j<=(l.getD i.toNat (dfl (.st .modu))).imports.length/\∀y∈(l.getD i.toNat (dfl (.st .modu))).imports.take j,y.name≠m.name,fun j=>[(8,.int .i64 j)],fun _=>[],fun j=>(l.getD i.toNat (dfl (.st .modu))).imports.length-j⟩)],[],[]⟩ Tryz.func5 (uh l m k hl hm hk hs hi)
end Go.AL.Seat
end
noncomputable section
namespace Go.AL.Seat
open Go Go.AL Go.Proofs Go.Shelf Go.Pd
variable [Tabs]
def M3(t:Str):Bool:=!t.isEmpty&&decide (t.length<=15)&&t.all fun c=>decide (48<=c.toNat)&&decide (c.toNat<=57)
theorem KJ{t:Str}(h:M3 t=true):sF t:=by unfold M3 at h;simp only[MR,Nc,MV,N6]at h;exact⟨fun e=>(by rw[e]at h;exact absurd h.1.1 (by decide)),h.1.2,h.2⟩
def mX:List (Nat×Pat):=
 [(162,p1 .str fun s=>.ret (.tup [.int .i32 ((kg s).1:Int),.int .i64 ((kg s).2:Int)])),
  (173,p2 .str (.int .u8) fun a c=>.ret (.int .i64 (Hi a c))),
  (105,q2 .str .str (fun _ b=>decide (b=qq)) fun a _=>.str (mP a)),
  (170,q2 .str .str (fun a b=>decide (b=[45])&&decide (a.length<4294967281)) fun a _=>.tup [.str (j7 a),.str (nB a),.bool (pk a)]),
  (124,q2 .str .str (fun a b=>decide (b=[46])&&decide (a.length<4294967281)) fun a _=>.lst .str (splitB 46 a) none),
  (175,q2 .str .str (fun _ b=>decide (b.length=1)) fun a b=>.bool (decide (b.getD 0 0∈a))),
  (172,q1 .str M3 fun t=>.tup [.int .i64 (mN t),.nilif]),
  (66,p1 .str fun s=>.ret (.bool (ay s))),(71,p1 .str fun s=>.ret (.bool (dh s))),
  (128,p1 (.st .shape) fun s=>.ret (.int .i64 (di s))),
  (25,q1 (.st .term) bR fun t=>.int .i64 (cY t))]
theorem jG[SeatLaid][SeatPow]:bz Tryz.prog (eA mX):=
 sc sP (sc u9 (sc (yp yI fun _ _ h=>Xo h)
  (sc (yp JT fun _ _ h=>by rw[MR]at h;exact⟨Xo h.1,Xo h.2⟩)
  (sc (yp po fun _ _ h=>by rw[MR]at h;exact⟨Xo h.1,Xo h.2⟩)
  (sc (yp wF fun _ _ h=>Xo h) (sc (KY Hh fun _ h=>KJ h)
  (sc fP (sc ij (sc pF (sc (KY nH fun _ h=>h) sn))))))))))
end Go.AL.Seat
end
noncomputable section
namespace Go.AL.Seat
open Go Go.AL Go.Proofs
variable [Tabs]
def b5:List (Nat×TR):=[(3,r2),(9,r9),(51,⟨.strct false [(0,3),(1,9),(2,9),(3,3),(4,36),(5,36),(6,46),(7,49),(8,3)],9,152,[.int .i64 0,.str [],.str [],.int .i64 0,.nils,.nils,.nils,.nils,.int .i64 0],some (.st .term)⟩),(154,⟨.strct false [(0,152)],4,48,[.nils,.int .i64 0,.int .i64 0,.int .i64 0],some (.st .par)⟩),(149,⟨.ptr 154,1,8,[.nilp],none⟩),(5,r5),(148,⟨.strct true [(0,3),(1,9),(2,3)],3,32,[.int .i64 0,.str [],.int .i64 0],some (.st .token)⟩),(28,⟨.strct true [(0,26),(1,3)],2,16,[.int .i64 0,.int .i64 0],some (.st .fault)⟩),(48,⟨.strct false [(0,3),(1,9),(2,9),(3,36),(4,46)],5,88,[.int .i64 0,.str [],.str [],.nils,.nils],some (.st .shape)⟩),(142,JO),(36,⟨.slice 9,1,24,[.nils],some (.lst .str)⟩),(140,JN),(46,⟨.slice 48,1,24,[.nils],some (.lst (.st .shape))⟩),(49,⟨.slice 51,1,24,[.nils],some (.lst (.st .term))⟩),(152,⟨.strct false [(0,96),(1,3),(2,28)],4,48,[.nils,.int .i64 0,.int .i64 0,.int .i64 0],some (.st .par)⟩),(26,r2),(96,⟨.slice 148,1,24,[.nils],some (.lst (.st .token))⟩),(40,⟨.strct true [(0,3),(1,3),(2,3),(3,9)],4,40,[.int .i64 0,.int .i64 0,.int .i64 0,.str []],some (.st .version)⟩),(4,⟨.bool,1,1,[.bool false],some .bool⟩),(138,⟨.ptr 142,1,8,[.nilp],none⟩),(1,r1),(204,r1),(193,⟨.slice 3,1,24,[.nils],some (.lst (.int .i64))⟩),(258,⟨.arr 3 3,3,24,[.int .i64 0,.int .i64 0,.int .i64 0],none⟩),(263,⟨.slice 5,1,24,[.nils],some (.lst (.int .u8))⟩),(21,r21),(47,⟨.strct false [(0,3),(1,9),(2,9),(3,36),(4,46)],5,88,[.int .i64 0,.str [],.str [],.nils,.nils],none⟩),(39,⟨.strct true [(0,3),(1,3),(2,3),(3,9)],4,40,[.int .i64 0,.int .i64 0,.int .i64 0,.str []],none⟩),(151,⟨.strct false [(0,96),(1,3),(2,28)],4,48,[.nils,.int .i64 0,.int .i64 0,.int .i64 0],none⟩),(153,⟨.strct false [(0,152)],4,48,[.nils,.int .i64 0,.int .i64 0,.int .i64 0],none⟩),(147,⟨.strct true [(0,3),(1,9),(2,3)],3,32,[.int .i64 0,.str [],.int .i64 0],none⟩),(141,JO),(139,JN),(27,⟨.strct true [(0,26),(1,3)],2,16,[.int .i64 0,.int .i64 0],none⟩),(50,⟨.strct false [(0,3),(1,9),(2,9),(3,3),(4,36),(5,36),(6,46),(7,49),(8,3)],9,152,[.int .i64 0,.str [],.str [],.int .i64 0,.nils,.nils,.nils,.nils,.int .i64 0],none⟩)]
theorem jH:aP Tryz.prog b5:=.cons tk (.cons tk (.cons tk (.cons tk (.cons tk (.cons tk (.cons tk (.cons tk (.cons tk (.cons tk (.cons tk (.cons tk (.cons tk (.cons tk (.cons tk (.cons tk (.cons tk (.cons tk (.cons tk (.cons tk (.cons tk (.cons tk (.cons tk (.cons tk (.cons tk (.cons tk (.cons tk (.cons tk (.cons tk (.cons tk (.cons tk (.cons tk (.cons tk (.cons tk (.cons tk (.nil)))))))))))))))))))))))))))))))))))
end Go.AL.Seat
end
noncomputable section
namespace Go.AL.Seat
open Go Go.AL Go.Proofs
set_option maxRecDepth 1000000
variable [Tabs]
def pI(f:Nat):List (Option Nat):=if Nat.beq f 49||Nat.beq f 50 then[some 2]else[]
def pJ(f:Nat):Bool:=false
def iK:List (Nat×FB):=(13,bQ b5 Tryz.f13 4362109181 [] (fun _=>false) (fun _=>false) (fun _=>false) false)::(22,bQ b5 Tryz.f22 77975715369647181664879229 [] (fun _=>false) (fun _=>false) (fun _=>false) false)::(23,bQ b5 Tryz.f23 9016029707634675 [] (fun _=>false) (fun _=>false) (fun _=>false) false)::(24,bQ b5 Tryz.f24 531 [] (fun _=>false) (fun _=>false) (fun _=>false) false)::(49,bQ b5 Tryz.f49 65555 [] (fun _=>false) (fun _=>false) (fun _=>false) false)::(50,bQ b5 Tryz.f50 4294967347 [] (fun _=>false) (fun _=>false) (fun _=>false) false)::(51,bQ b5 Tryz.f51 5 [] (fun _=>false) (fun _=>false) (fun _=>false) false)::(52,bQ b5 Tryz.f52 8388935 [] (fun _=>false) (fun _=>false) (fun _=>false) false)::(53,bQ b5 Tryz.f53 87112288527988523651034566703108870643455 [] (fun _=>false) (fun _=>false) (fun d=>Nat.beq d 21) false)::(54,bQ b5 Tryz.f54 33816627 [] (fun _=>false) (fun _=>false) (fun _=>false) false)::(55,bQ b5 Tryz.f55 5 [] (fun _=>false) (fun _=>false) (fun _=>false) false)::(56,bQ b5 Tryz.f56 268439557 [] (fun _=>false) (fun _=>false) (fun _=>false) false)::(57,bQ b5 Tryz.f57 81129648086015544455969055506495 [] (fun _=>false) (fun _=>false) (fun _=>false) false)::(58,bQ b5 Tryz.f58 263 [] (fun _=>false) (fun _=>false) (fun _=>false) false)::(96,bQ b5 Tryz.f96 549890048253 [] (fun _=>false) (fun _=>false) (fun _=>false) false)::(97,bQ b5 Tryz.f97 71 [] (fun _=>false) (fun _=>false) (fun _=>false) false)::(98,bQ b5 Tryz.f98 79 [] (fun _=>false) (fun _=>false) (fun _=>false) false)::(99,bQ b5 Tryz.f99 5 [] (fun _=>false) (fun _=>false) (fun _=>false) false)::(100,bQ b5 Tryz.f100 5 [] (fun _=>false) (fun _=>false) (fun _=>false) false)::(101,bQ b5 Tryz.f101 5 [] (fun _=>false) (fun _=>false) (fun _=>false) false)::(102,bQ b5 Tryz.f102 29 [] (fun _=>false) (fun _=>false) (fun _=>false) false)::(103,bQ b5 Tryz.f103 5 [] (fun _=>false) (fun _=>false) (fun _=>false) false)::(104,bQ b5 Tryz.f104 5 [] (fun _=>false) (fun _=>false) (fun _=>false) false)::(106,bQ b5 Tryz.f106 151115799509488183025661 [] (fun _=>false) (fun _=>false) (fun _=>false) false)::(107,bQ b5 Tryz.f107 618970019647202533975261693 [] (fun _=>false) (fun _=>false) (fun _=>false) false)::(108,bQ b5 Tryz.f108 29 [] (fun _=>false) (fun _=>false) (fun _=>false) false)::(109,bQ b5 Tryz.f109 3 [] (fun d=>Nat.beq d 8) (fun _=>false) (fun _=>false) false)::(110,bQ b5 Tryz.f110 7 [] (fun d=>Nat.beq d 15) (fun _=>false) (fun _=>false) false)::(113,bQ b5 Tryz.f113 275 [] (fun _=>false) (fun _=>false) (fun _=>false) false)::(111,bQ b5 Tryz.f111 131 [] (fun _=>false) (fun _=>false) (fun _=>false) false)::(115,bQ b5 Tryz.f115 7 [] (fun _=>false) (fun _=>false) (fun _=>false) false)::(114,bQ b5 Tryz.f114 271375 [] (fun _=>false) (fun _=>false) (fun _=>false) false)::(117,bQ b5 Tryz.f117 32819 [] (fun _=>false) (fun _=>false) (fun _=>false) false)::(118,bQ b5 Tryz.f118 15 [] (fun _=>false) (fun _=>false) (fun _=>false) false)::(119,bQ b5 Tryz.f119 17180524607 [] (fun _=>false) (fun _=>false) (fun _=>false) false)::(171,bQ b5 Tryz.f171 5 [] (fun _=>false) (fun _=>false) (fun _=>false) false)::(67,bQ b5 Tryz.f67 9316337836119 [] (fun _=>false) (fun _=>false) (fun _=>false) false)::(174,bQ b5 Tryz.f174 5 [] (fun _=>false) (fun _=>false) (fun _=>false) false)::(112,bQ b5 Tryz.f112 2228285 [] (fun _=>false) (fun _=>false) (fun _=>false) false)::(177,bQ b5 Tryz.f177 51 [] (fun _=>false) (fun _=>false) (fun _=>false) false)::(116,bQ b5 Tryz.f116 65587 [] (fun _=>false) (fun _=>false) (fun _=>false) false)::(178,bQ b5 Tryz.f178 23945973599159813139139346461134680183357916012085311 [] (fun _=>false) (fun _=>false) (fun _=>false) false)::(179,bQ b5 Tryz.f179 3 [] (fun d=>Nat.beq d 8) (fun _=>false) (fun _=>false) false)::(125,bQ b5 Tryz.f125 18014398524686365 [] (fun _=>false) (fun _=>false) (fun _=>false) false)::(176,bQ b5 Tryz.f176 324677087359430077278579446644799 [] (fun d=>Nat.beq d 129) (fun _=>false) (fun _=>false) false)::(33,bQ b5 Tryz.f33 19 [] (fun _=>false) (fun _=>false) (fun _=>false) false)::(236,bQ b5 Tryz.f236 3 [] (fun d=>Nat.beq d 23) (fun _=>false) (fun _=>false) false)::(237,bQ b5 Tryz.f237 13 [] (fun _=>false) (fun _=>false) (fun _=>false) false)::(232,bQ b5 Tryz.f232 7 [] (fun d=>Nat.beq d 21) (fun _=>false) (fun _=>false) false)::(234,bQ b5 Tryz.f234 149971 [] (fun _=>false) (fun _=>false) (fun _=>false) false)::(235,bQ b5 Tryz.f235 3 [] (fun d=>Nat.beq d 8) (fun _=>false) (fun _=>false) false)::(73,bQ b5 Tryz.f73 66483 [] (fun _=>false) (fun _=>false) (fun _=>false) false)::(233,bQ b5 Tryz.f233 5 [] (fun _=>false) (fun _=>false) (fun _=>false) false)::[]
theorem fw:aU Tryz.prog iK:=aU.cons Tryz.func13 (by kernel_rfl) (aU.cons Tryz.func22 (by kernel_rfl) (aU.cons Tryz.func23 (by kernel_rfl) (aU.cons Tryz.func24 (by kernel_rfl) (aU.cons Tryz.func49 (by kernel_rfl) (aU.cons Tryz.func50 (by kernel_rfl) (aU.cons Tryz.func51 (by kernel_rfl) (aU.cons Tryz.func52 (by kernel_rfl) (aU.cons Tryz.func53 (by kernel_rfl) (aU.cons Tryz.func54 (by kernel_rfl) (aU.cons Tryz.func55 (by kernel_rfl) (aU.cons Tryz.func56 (by kernel_rfl) (aU.cons Tryz.func57 (by kernel_rfl) (aU.cons Tryz.func58 (by kernel_rfl) (aU.cons Tryz.func96 (by kernel_rfl) (aU.cons Tryz.func97 (by kernel_rfl) (aU.cons Tryz.func98 (by kernel_rfl) (aU.cons Tryz.func99 (by kernel_rfl) (aU.cons Tryz.func100 (by kernel_rfl) (aU.cons Tryz.func101 (by kernel_rfl) (aU.cons Tryz.func102 (by kernel_rfl) (aU.cons Tryz.func103 (by kernel_rfl) (aU.cons Tryz.func104 (by kernel_rfl) (aU.cons Tryz.func106 (by kernel_rfl) (aU.cons Tryz.func107 (by kernel_rfl) (aU.cons Tryz.func108 (by kernel_rfl) (aU.cons Tryz.func109 (by kernel_rfl) (aU.cons Tryz.func110 (by kernel_rfl) (aU.cons Tryz.func113 (by kernel_rfl) (aU.cons Tryz.func111 (by kernel_rfl) (aU.cons Tryz.func115 (by kernel_rfl) (aU.cons Tryz.func114 (by kernel_rfl) (aU.cons Tryz.func117 (by kernel_rfl) (aU.cons Tryz.func118 (by kernel_rfl) (aU.cons Tryz.func119 (by kernel_rfl) (aU.cons Tryz.func171 (by kernel_rfl) (aU.cons Tryz.func67 (by kernel_rfl) (aU.cons Tryz.func174 (by kernel_rfl) (aU.cons Tryz.func112 (by kernel_rfl) (aU.cons Tryz.func177 (by kernel_rfl) (aU.cons Tryz.func116 (by kernel_rfl) (aU.cons Tryz.func178 (by kernel_rfl) (aU.cons Tryz.func179 (by kernel_rfl) (aU.cons Tryz.func125 (by kernel_rfl) (aU.cons Tryz.func176 (by kernel_rfl) (aU.cons Tryz.func33 (by kernel_rfl) (aU.cons Tryz.func236 (by kernel_rfl) (aU.cons Tryz.func237 (by kernel_rfl) (aU.cons Tryz.func232 (by kernel_rfl) (aU.cons Tryz.func234 (by kernel_rfl) (aU.cons Tryz.func235 (by kernel_rfl) (aU.cons Tryz.func73 (by kernel_rfl) (aU.cons Tryz.func233 (by kernel_rfl) (aU.nil)))))))))))))))))))))))))))))))))))))))))))))))))))))
end Go.AL.Seat
end
noncomputable section
namespace Go.AL.Seat
open Go Go.AL Go.Proofs Go.Pd
set_option maxRecDepth 1000000
def aw1:Str:=[108,101,116,32,120,32,61,32,50,32,105,110,32,97,100,100,40,120,44,32,51,41]
def M4:AV:=.tup [.lst (.st .token) [⟨5,[108,101,116],0⟩,⟨1,[120],4⟩,⟨6,[61],6⟩,⟨3,[50],8⟩,⟨5,[105,110],10⟩,⟨1,[97,100,100],13⟩,⟨6,[40],16⟩,⟨1,[120],17⟩,⟨6,[44],18⟩,⟨3,[51],20⟩,⟨6,[41],21⟩,⟨0,[],22⟩] none,.agg [.int .i64 0,.int .i64 0]]
def aw2:Str:=[49,40,50,41]
def M5:AV:=.tup [.lst (.st .token) [⟨3,[49],0⟩,⟨6,[40],1⟩,⟨3,[50],2⟩,⟨6,[41],3⟩,⟨0,[],4⟩] none,.agg [.int .i64 0,.int .i64 0]]
variable [Tabs] [SeatLaid] [SeatPow]
theorem Mr:an Tryz.prog 22 [.str aw1] [] (.ret M4):=gh (n:=100) mixed jH jG fw (by kernel_rfl:sB b5 iK pJ pI 5000 (eA mX) 100 22 [.str aw1] []=some ⟨none,none,M4,[]⟩)
theorem Ms:an Tryz.prog 22 [.str aw2] [] (.ret M5):=gh (n:=100) mixed jH jG fw (by kernel_rfl:sB b5 iK pJ pI 5000 (eA mX) 100 22 [.str aw2] []=some ⟨none,none,M5,[]⟩)
end Go.AL.Seat
end
noncomputable section
namespace Go.AL.Seat
open Go Go.AL Go.Proofs Go.Pd
set_option maxRecDepth 1000000
def aw3:Str:=[40,102,117,110,32,40,120,58,32,65,110,121,41,32,45,62,32,120,40,120,41,41,40,102,117,110,32,40,120,58,32,65,110,121,41,32,45,62,32,120,40,120,41,41]
def M6:AV:=.tup [.lst (.st .token) [⟨6,[40],0⟩,⟨5,[102,117,110],1⟩,⟨6,[40],5⟩,⟨1,[120],6⟩,⟨6,[58],7⟩,⟨2,[65,110,121],9⟩,⟨6,[41],12⟩,⟨6,[45,62],14⟩,⟨1,[120],17⟩,⟨6,[40],18⟩,⟨1,[120],19⟩,⟨6,[41],20⟩,⟨6,[41],21⟩,⟨6,[40],22⟩,⟨5,[102,117,110],23⟩,⟨6,[40],27⟩,⟨1,[120],28⟩,⟨6,[58],29⟩,⟨2,[65,110,121],31⟩,⟨6,[41],34⟩,⟨6,[45,62],36⟩,⟨1,[120],39⟩,⟨6,[40],40⟩,⟨1,[120],41⟩,⟨6,[41],42⟩,⟨6,[41],43⟩,⟨0,[],44⟩] none,.agg [.int .i64 0,.int .i64 0]]
variable [Tabs] [SeatLaid] [SeatPow]
theorem Mt:an Tryz.prog 22 [.str aw3] [] (.ret M6):=gh (n:=100) mixed jH jG fw (by kernel_rfl:sB b5 iK pJ pI 5000 (eA mX) 100 22 [.str aw3] []=some ⟨none,none,M6,[]⟩)
end Go.AL.Seat
end
noncomputable section
namespace Go.AL.Seat
open Go Go.AL Go.Proofs Go.Pd
set_option maxRecDepth 1000000
def KK(s:Str)(p:Int):Trm:=⟨5,[],s,0,[],[],[],[],p⟩
def KM(n p:Int):Trm:=⟨1,[],[],n,[],[],[],[],p⟩
def tfun(a b c:Int):Trm:=⟨6,[],[],0,[[120]],[],[⟨4,[],[],[],[]⟩],[⟨7,[],[],0,[],[],[],[KK [120] b,KK [120] c],b⟩],a⟩
def J2:Trm:=⟨14,[],[120],0,[],[],[],[KM 2 8,⟨7,[],[],0,[],[],[],[KK [97,100,100] 13,KK [120] 17,KM 3 20],13⟩],0⟩
def J3:Trm:=⟨7,[],[],0,[],[],[],[KM 1 0,KM 2 2],0⟩
def J4:Trm:=⟨7,[],[],0,[],[],[],[tfun 1 17 19,tfun 23 39 41],0⟩
def awA(t:Trm):AV:=.tup [.agg [.int .i64 t.kind,.str t.pkg,.str t.name,.int .i64 t.n,.nils,.nils,.nils,.lst (.st .term) t.parts none,.int .i64 t.pos],.agg [.int .i64 0,.int .i64 0]]
variable [Tabs] [SeatLaid] [SeatPow]
def J5:List (Nat×Pat):=(22,qd [.str aw1] M4)::mX
theorem Gc:bz Tryz.prog (eA J5):=sc (mj (ee Tryz.func22) Mr) jG
theorem Mu:an Tryz.prog 13 [.str aw1] [] (.ret (awA J2)):=gh (n:=100) mixed jH Gc fw (by kernel_rfl:sB b5 iK pJ pI 5000 (eA J5) 100 13 [.str aw1] []=some ⟨none,none,awA J2,[]⟩)
end Go.AL.Seat
end
noncomputable section
namespace Go.AL.Seat
open Go Go.AL Go.Proofs Go.Pd
set_option maxRecDepth 1000000
variable [Tabs] [SeatLaid] [SeatPow]
def J6:List (Nat×Pat):=(22,qd [.str aw2] M5)::mX
theorem Gd:bz Tryz.prog (eA J6):=sc (mj (ee Tryz.func22) Ms) jG
theorem Mv:an Tryz.prog 13 [.str aw2] [] (.ret (awA J3)):=gh (n:=100) mixed jH Gd fw (by kernel_rfl:sB b5 iK pJ pI 5000 (eA J6) 100 13 [.str aw2] []=some ⟨none,none,awA J3,[]⟩)
end Go.AL.Seat
end
noncomputable section
namespace Go.AL.Seat
open Go Go.AL Go.Proofs Go.Pd
set_option maxRecDepth 1000000
variable [Tabs] [SeatLaid] [SeatPow]
def J7:List (Nat×Pat):=(22,qd [.str aw3] M6)::mX
theorem Ge:bz Tryz.prog (eA J7):=sc (mj (ee Tryz.func22) Mt) jG
theorem Mw:an Tryz.prog 13 [.str aw3] [] (.ret (awA J4)):=gh (n:=100) mixed jH Ge fw (by kernel_rfl:sB b5 iK pJ pI 5000 (eA J7) 100 13 [.str aw3] []=some ⟨none,none,awA J4,[]⟩)
end Go.AL.Seat
end
noncomputable section
namespace Go.AL.Seat
open Go Go.AL Go.Proofs Go.Pd
set_option maxRecDepth 1000000
mutual
theorem eqT_snd:∀{a b:Trm},eqT a b true=true->a=b
 |⟨k,g,q,z,ns,vs,ss,ps,pp⟩,⟨k',g',q',z',ns',vs',ss',ps',pp'⟩,h=>by simp only[eqT,MR,MV,PQ,Bool.false_or]at h;obtain⟨⟨⟨⟨⟨⟨⟨⟨rfl,rfl⟩,rfl⟩,rfl⟩,rfl⟩,rfl⟩,rfl⟩,h1⟩,h2⟩:=h;rw[eqL_eq h1,eqTL_snd h2]
theorem eqTL_snd:∀{a b:List Trm},eqTL a b true=true->a=b
 |[],[],_=>rfl
 |[],_::_,h=>by simp[eqTL]at h
 |_::_,[],h=>by simp[eqTL]at h
 |a::r,b::s,h=>by simp only[eqTL,MR]at h;rw[eqT_snd h.1,eqTL_snd h.2]
end
def awR1:Rn:=⟨⟨1,5,[],[],[],[]⟩,1,⟨0,0⟩⟩
def awR2:Rn:=⟨fv,0,⟨291,0⟩⟩
def awR3:Rn:=⟨fv,0,⟨292,39⟩⟩
theorem Mx:qv 60 60 J2 5=some awR1:=by kernel_rfl
theorem My:qv 60 60 J3 5=some awR2:=by kernel_rfl
theorem Mz:qv 60 60 J4 9=some awR3:=by kernel_rfl
variable [Tabs] [SeatLaid] [SeatPow]
def runV(r:Rn):AV:=.tup [.st .val r.v,.int .i64 r.st,.st .fault r.f]
def Ea(u:Trm)(s:Int)(r:Rn):Pat:=q2 (.st .term) (.int .i64) (fun t k=>eqT t u true&&decide (k=s)) fun _ _=>runV r
theorem xo{u:Trm}{s:Int}{r:Rn}(hf:bR u=true)(h:qv 60 60 u s=some r):ag Tryz.prog 14 (Ea u s r):=
 yp (O:=fun t k=>t=u/\k=s) (cP (ee Tryz.func14) fun t k ht hk ho=>by
  obtain⟨rfl,rfl⟩:=ho _ rfl;have q:=Ga 60 60 t k ht hk hf (by rw[h];rfl) (D5 60 60 (IV 60 60 (pG 60) (tH 60 (tG 60))));rw[h]at q;exact q) fun t k q=>by
  rw[MR]at q;exact⟨eqT_snd q.1,Xo q.2⟩
end Go.AL.Seat
end
noncomputable section
namespace Go.AL.Seat
open Go Go.AL Go.Proofs
variable [Tabs]
def J8:List (Nat×TR):=[(28,⟨.strct true [(0,26),(1,3)],2,16,[.int .i64 0,.int .i64 0],some (.st .fault)⟩),(26,r2),(3,r2),(51,⟨.strct false [(0,3),(1,9),(2,9),(3,3),(4,36),(5,36),(6,46),(7,49),(8,3)],9,152,[.int .i64 0,.str [],.str [],.int .i64 0,.nils,.nils,.nils,.nils,.int .i64 0],some (.st .term)⟩),(61,⟨.strct false [(0,3),(1,2),(2,9),(3,9),(4,36),(5,59)],6,96,[.int .i64 0,.int .i64 0,.str [],.str [],.nils,.nils],some (.st .val)⟩),(9,r9),(2,r2),(36,⟨.slice 9,1,24,[.nils],some (.lst .str)⟩),(46,⟨.slice 48,1,24,[.nils],some (.lst (.st .shape))⟩),(60,⟨.strct false [(0,3),(1,2),(2,9),(3,9),(4,36),(5,59)],6,96,[.int .i64 0,.int .i64 0,.str [],.str [],.nils,.nils],none⟩),(59,⟨.slice 61,1,24,[.nils],some (.lst (.st .val))⟩),(27,⟨.strct true [(0,26),(1,3)],2,16,[.int .i64 0,.int .i64 0],none⟩),(50,⟨.strct false [(0,3),(1,9),(2,9),(3,3),(4,36),(5,36),(6,46),(7,49),(8,3)],9,152,[.int .i64 0,.str [],.str [],.int .i64 0,.nils,.nils,.nils,.nils,.int .i64 0],none⟩),(49,⟨.slice 51,1,24,[.nils],some (.lst (.st .term))⟩),(48,⟨.strct false [(0,3),(1,9),(2,9),(3,36),(4,46)],5,88,[.int .i64 0,.str [],.str [],.nils,.nils],some (.st .shape)⟩),(47,⟨.strct false [(0,3),(1,9),(2,9),(3,36),(4,46)],5,88,[.int .i64 0,.str [],.str [],.nils,.nils],none⟩)]
theorem J9:aP Tryz.prog J8:=.cons tk (.cons tk (.cons tk (.cons tk (.cons tk (.cons tk (.cons tk (.cons tk (.cons tk (.cons tk (.cons tk (.cons tk (.cons tk (.cons tk (.cons tk (.cons tk (.nil))))))))))))))))
end Go.AL.Seat
end
noncomputable section
namespace Go.AL.Seat
open Go Go.AL Go.Proofs
set_option maxRecDepth 1000000
variable [Tabs]
def M7(f:Nat):List (Option Nat):=[]
def M8(f:Nat):Bool:=false
def Aq:List (Nat×FB):=(7,bQ J8 Tryz.f7 40191 [] (fun _=>false) (fun _=>false) (fun _=>false) false)::[]
theorem Ar:aU Tryz.prog Aq:=aU.cons Tryz.func7 (by kernel_rfl) (aU.nil)
end Go.AL.Seat
end
noncomputable section
namespace Go.AL.Seat
open Go Go.AL Go.Proofs Go.Pd
set_option maxRecDepth 1000000
variable [Tabs] [SeatLaid] [SeatPow]
def L4:List (Nat×Pat):=[(13,qd [.str aw1] (awA J2)),(13,qd [.str aw2] (awA J3)),(13,qd [.str aw3] (awA J4)),(14,Ea J2 5 awR1),(14,Ea J3 5 awR2),(14,Ea J4 9 awR3)]
theorem Ja:bz Tryz.prog (eA L4):=sc (mj (ee Tryz.func13) Mu) (sc (mj (ee Tryz.func13) Mv) (sc (mj (ee Tryz.func13) Mw) (sc (xo rfl Mx) (sc (xo rfl My) (sc (xo rfl Mz) sn)))))
theorem As:ag Tryz.prog 7 (p0 (.ret (.bool true))):=
 L2 (ee Tryz.func7) (gh (n:=2) mixed J9 Ja Ar (by kernel_rfl:sB J8 Aq M8 M7 50 (eA L4) 2 7 [] []=some ⟨none,none,.bool true,[]⟩))
end Go.AL.Seat
end
noncomputable section
namespace Go.AL
variable [Tabs]
open Go.ChangeShapes Go.WideShapes Go.RowKit
def Eb(w:World)(b o:Nat):Prop:=∃v,w.cell? ⟨b,o,none⟩=some v
def Om0(w:World):Om:=⟨fun _=>none,w,Eb w⟩
theorem Gf{P:Program}{f:Nat}{args:List AV}(h:an P f args [] (.ret (.bool true))){w:World}{vs:List Value}(htab:∀b o v,Tabs.tab b o v->w.cell? ⟨b,o,none⟩=some v)(hobj:∀b x,Tabs.obj b x->w.heap[b]?=some x)(hv:VL (Om0 w) args vs) :
  Calls P f vs.toArray w fun e w'=>e=.returned (.bool true)/\RowKit.Below w.heap.size w w':=by
 refine Calls.mono (h w (Eb w) (fun _=>none) vs (fun _ _ h=>h) ⟨fun b o v ht=>⟨⟨v,htab b o v ht⟩,htab b o v ht⟩,fun b x hx=>⟨hobj b x hx,fun o ⟨_,_,hc,_⟩=>by cases hc⟩⟩ hv (fun id o ho=>by simp[aN,aG]at ho) (fun _ _=>rfl) (fun i j c d b o hc=>by cases hc)) ?_;intro e w' hq;obtain⟨pub',e',hq⟩:=hq
 cases e with
 |returned v=>obtain⟨_,hv,ha⟩:=hq;have:=hv.bool_inv;subst this;exact⟨rfl,ha.os,ha.tape,ha.output,ha.size,fun b hb=>ha.block b hb fun o ⟨id,c,hc,_⟩=>by cases hc⟩
 |panicked ch=>obtain⟨pv,u,v,hp,_⟩:=hq;cases hp
 |outgrown=>exact hq.elim
section
variable {H:Type} {enc:TypeId×Value->H} {P:Program}
theorem mY(hl:laidOutB P=true){W W':World}(hb:Below W.heap.size W W'){sp:Nat->Bool}:∀{ts:List TypeId} {vs:List Value} {ds:List (DataW H)} {p:List MemPlace},
  (∀t∈ts,P.readableRec t=true/\t<P.types.size)->DataW.TrodAll enc P W 0 (fun _=>true) true ts vs ds p->(∀x∈p,x.block<W.heap.size)->(∀x∈p,sp x.block=true)->DataW.TrodAll enc P W' 0 sp true ts vs ds p
 |[],_,_,_,_,h,_,_=>by obtain⟨rfl,rfl,rfl⟩:=trodAll_nil h;exact h
 |t::ts,_,_,_,hr,h,hlt,hsp=>by
  obtain⟨v,vs,d,ds,p,q,rfl,rfl,rfl,h1,h2⟩:=trodAll_cons h;obtain⟨r1,r2⟩:=hr t (by simp)
  exact⟨p,q,WideElems.Trod_stays hl r1 r2 h1 (fun x hx=>hb.same (hlt x (by simp[hx]))) (fun x hx=>hsp x (by simp[hx])),
   mY hl hb (fun t ht=>hr t (by simp[ht])) h2 (fun x hx=>hlt x (by simp[hx])) (fun x hx=>hsp x (by simp[hx])),rfl⟩
theorem Jb(hl:laidOutB P=true){f:Func}{s:ChangeSpec}{apart fresh handsOn again:Bool}{W W':World}{args:Array Value}{ds gs:List (DataW H)}{before:List MemPlace}{tb:TypeId}
 (hr:∀t∈f.params.toList,P.readableRec t=true/\t<P.types.size)(hvars:s.vars=[])(hfn:∀ds:List (DataW H),ds.length=f.params.size->s.fn H ds={results:=[.lit (.bool true)],args:=ds})(hrt:f.resultTypes=#[tb])(htb:P.underlying tb=some .bool)
 (hW:DataW.Whole enc P f.params.toList s.vars apart W args.toList ds gs before)(hb:Below W.heap.size W W'):s.post enc P f apart fresh handsOn again W args (.bool true) W':=by
 have hlt:∀p∈before,p.block<W.heap.size:=fun p hp=>hW.lt p hp;have hW0:=hW;obtain⟨p,q,hA,hV,e,hz,hn⟩:=hW;rw[hvars]at hV;obtain⟨rfl,rfl⟩:=trodVars_none hV;rw[Ow]at e;subst e
 have hlen:ds.length=f.params.size:=by
  have:∀{ts:List TypeId} {vs:List Value} {ds:List (DataW H)} {p:List MemPlace},DataW.TrodAll enc P W 0 (fun _=>true) true ts vs ds p->ds.length=ts.length:=by
   intro ts
   induction ts with
   |nil=>intro vs ds p h;obtain⟨rfl,rfl,rfl⟩:=trodAll_nil h;rfl
   |cons t ts ih=>intro vs ds p h;obtain⟨v,vs,d,ds,p,q,rfl,rfl,rfl,h1,h2⟩:=trodAll_cons h;simp[ih h2]
  simpa using this hA
 have hf:=hfn ds hlen;have hs:∀sp:Nat->Bool,(∀x∈before,sp x.block=true)->DataW.TrodAll enc P W' 0 sp true f.params.toList args.toList ds before:=fun sp hsp=>mY hl hb hr hA hlt hsp;have hres:∀(b:Nat)(sp:Nat->Bool)(hd:Bool),DataW.TrodAll enc P W' b sp hd f.resultTypes.toList ((Value.bool true).resultList f.resultTypes.size) [.lit (.bool true)] []:=by intro b sp hd;rw[hrt];exact trodAll_cons_mk (shut_bool htb true) trodAll_mk0
 have hvs:DataW.TrodVars enc P W' (fun b=>decide (b<W.heap.size)) s.vars [] []:=by rw[hvars];rfl
 refine⟨ds,[],before,[],before,[],hW0,?_,?_,?_,World.keptBut_mono (fun x hx=>⟨hx,.inr (.inl hx)⟩) (hb.frame (·∈before)),fun _=>⟨?_,?_⟩⟩
 ·rw[Ow,hf];exact hres _ _ _
 ·rw[Ow,hf];exact hs _ fun x hx=>by simpa using hlt x hx
 ·rw[Ow,hf];exact hvs
 ·intro j t r h1 h2;rw[hrt]at h1 h2
  cases j with
  |zero=>
   simp at h1;subst h1;have:r=.bool true:=by simp[Value.resultList]at h2;exact h2.symm
   subst this;simp[Value.okWide,htb,Cell.okWide,Cell.ok]
  |succ j=>simp at h1
 ·refine⟨[.lit (.bool true)]++ds,[],[]++before,⟨[]++before,[],trodAll_append (hs _ fun _ _=>rfl) (hres _ _ _),by rw[hvars];rfl,by simp,fun b off hp=>?_,fun ha=>by simpa using hn ha⟩,fun x hx _=>by simpa using hx⟩;have hin:MemPlace.cell b off∈before:=by simpa using hp
  rw[hb.frozen (p:=⟨b,off,none⟩) (hlt _ hin)];exact hz b off hin
variable {w:World} {base:Nat} {sp:Nat->Bool} {held:Bool}
theorem kL{t:TypeId}{k:IntKind}{fuel:Nat}{cs:List Value}{x:DataW H×List MemPlace}(ht:P.underlying t=some (.int k))(h:DataW.trod enc P w base sp held fuel t cs=some x) :
  ∃n:Int,cs=[.int k n]/\V (Om0 w) (.int k n) (.int k n):=by
 obtain⟨n,rfl,_,hw⟩:=DataW.trod_int ht h;simp only[Lit.wf,MR,MV]at hw;exact⟨n,rfl,.int k n hw.1 hw.2⟩
theorem mZ{t:TypeId}{fuel:Nat}{cs:List Value}{x:DataW H×List MemPlace}(ht:P.underlying t=some .string)(h:DataW.trod enc P w base sp held fuel t cs=some x) :
  ∃(s:Str)(v:Value),cs=[v]/\V (Om0 w) (.str s) v:=by
 obtain⟨s,rfl,_,hw⟩:=DataW.trod_string ht h;refine⟨s.data.toList,_,rfl,?_⟩;have e:s=⟨s.data.toList.toArray⟩:=by cases s;simp
 have hl:s.data.toList.length<=aY:=by have:s.data.size=s.size:=rfl;unfold maxLen at hw;unfold aY;simp only[On,this];omega
 have:=V.str (Ω:=Om0 w) s.data.toList hl;rw[<-e]at this;exact this
theorem MA{t e:TypeId}{τ:Ty}{fuel:Nat}{cs:List Value}{x:DataW H×List MemPlace}(ht:P.underlying t=some (.slice e))(hc:P.cellsOf e=ab τ)(h:DataW.trod enc P w base sp held fuel t cs=some x)
 (hel:∀(n:Nat)(ds:List Value)(y:DataW H×List MemPlace),fuel=n+1->DataW.trod enc P w base sp held n e ds=some y->∃z:den τ,VL (Om0 w) (cells τ z) ds)
 (hsp:∀a len cap,cs=[.slice (some a) len cap]->a.spot=none):∃(l:List (den τ))(v:Value),cs=[v]/\V (Om0 w) (.lst τ l none) v:=by
 rcases Pu ht h with⟨rfl,_⟩|⟨a,len,cap,elems,rest,n,hfu,rfl,_,_,hlc,hcm,hlen,hels,_,_⟩
 ·exact⟨[],_,rfl,.lstNil τ none (fun id hid=>by cases hid)⟩
 ·have hs:=hsp a len cap rfl;obtain⟨b,off,spot⟩:=a;simp only at hs;subst hs
  have each:∀i,i<len->∃z:den τ,∃ds:List Value,ds.length=ab τ/\(∀j,j<ab τ->w.cell? ⟨b,off+(i *ab τ+j),none⟩=ds[j]?)/\VL (Om0 w) (cells τ z) ds:=by
   intro i hi;have h1:=hels i hi;obtain⟨y,hy⟩:∃y,elems[i]?=some y:=⟨_,MQ (by omega)⟩;rw[hy,hc,O7]at h1;obtain⟨ds,hd,hy'⟩:=h1;obtain⟨_,hdl,hdc⟩:=PK hd;obtain⟨z,hz⟩:=hel n ds y hfu hy';refine⟨z,ds,hdl,fun j hj=>?_,hz⟩;have:=hdc j hj
   have ha:∀(o n:Nat),(⟨b,o,none⟩:Addr).add n=⟨b,o+n,none⟩:=by
    intro o n;unfold Addr.add;by_cases h0:n=0
    ·subst h0;rfl
    ·rw[MS h0]
   rw[ha,ha,OD]at this;exact this
  have hz:∃l:List (den τ),l.length=len/\∀i z,l[i]?=some z->∃ds:List Value,ds.length=ab τ/\(∀j,j<ab τ->w.cell? ⟨b,off+(i *ab τ+j),none⟩=ds[j]?)/\VL (Om0 w) (cells τ z) ds:=by
   refine⟨(List.range len).attach.map fun i=>(each i.1 (Ou.1 i.2)).choose,by simp,fun i z hi=>?_⟩;have hil:i<len:=by have:=(Nw.1 hi).1;simpa using this
   simp only[Np,N3]at hi;obtain⟨⟨k,hk⟩,h1,h2⟩:=hi;have hki:k=i:=by have:=Nw.1 h1;obtain⟨_,e⟩:=this;have:=Oz Subtype.val e;simpa using this.symm
   subst hki;rw[<-h2];exact(each k (Ou.1 hk)).choose_spec
  obtain⟨l,hll,hle⟩:=hz;refine⟨l,_,rfl,?_⟩;have key:=V.lst (Ω:=Om0 w) τ l none b off cap (fun i j=>(w.cell? ⟨b,off+(i *ab τ+j),none⟩).getD undef) (by omega) (by unfold maxLen at hcm;unfold aY;omega) (fun id hid=>by cases hid) (fun i z hz j c hj=>?_) (fun i z hz j c hj=>?_)
  ·rw[hll]at key;exact key
  ·obtain⟨ds,d1,d2,d3⟩:=hle i z hz;have hjw:j<ab τ:=by rw[<-aJ τ z];exact(Nw.1 hj).1
   have hv:w.cell? ⟨b,off+(i *ab τ+j),none⟩=some ds[j]:=by rw[d2 j hjw];exact MQ (by omega)
   refine⟨⟨_,hv⟩,?_⟩;show w.cell? _=_;rw[hv];rfl
  ·obtain⟨ds,d1,d2,d3⟩:=hle i z hz;have hjw:j<ab τ:=by rw[<-aJ τ z];exact(Nw.1 hj).1
   have hd:ds[j]?=some ds[j]:=MQ (by omega);rw[d2 j hjw,hd];exact d3.2 j c ds[j] hj hd
theorem Jc{r:Reach}{b0:Nat}{t e:TypeId}{v:Value}(ht:P.underlying t=some (.slice e))(hv:Value.okWide P w r b0 t v):∀a len cap,v.cells.toList=[.slice (some a) len cap]->a.spot=none:=by
 intro a len cap hc;have:Cell.okWide P w r b0 t v:=by unfold Value.okWide at hv;rw[ht]at hv;exact hv
 unfold Cell.okWide at this;rw[ht]at this;have hok:Cell.ok P w r b0 t v:=by cases v<;>exact this
 unfold Cell.ok at hok;rw[ht]at hok
 cases v with
 |slice o l c=>simp[Value.cells]at hc;obtain⟨rfl,rfl,rfl⟩:=hc;simp only at hok;exact hok.2.2.2.1
 |_=>first|exact hok.elim|(simp[Value.cells]at hc)
theorem KN{r:Reach}{b0:Nat}{t e:TypeId}{v:Value}(ht:P.underlying t=some (.slice e))(hv:Value.okWide P w r b0 t v):v.cells.toList=[v]:=by
 have:Cell.okWide P w r b0 t v:=by unfold Value.okWide at hv;rw[ht]at hv;exact hv
 unfold Cell.okWide at this;rw[ht]at this;have hok:Cell.ok P w r b0 t v:=by cases v<;>exact this
 unfold Cell.ok at hok;rw[ht]at hok
 cases v with|slice o l c=>rfl|_=>exact hok.elim
end
end Go.AL
end
noncomputable section
namespace Go.AL
variable [Tabs]
open Go.ChangeShapes Go.WideShapes Go.RowKit
variable {H:Type} {enc:TypeId×Value->H} {P:Program} {w:World} {base:Nat} {held:Bool}
theorem qR{sp:Nat->Bool}{t:TypeId}{fs:Array Field}{fuel:Nat}{cs:List Value}{x:DataW H×List MemPlace}(ht:P.underlying t=some (.struct fs))(h:DataW.trod enc P w base sp held fuel t cs=some x) :
  ∃n,fuel=n+1/\cs.length=P.cellsOf t/\∀(i:Nat)(f:Field),fs[i]?=some f->∃y,DataW.trod enc P w base sp held n f.type ((cs.drop f.offset).take (P.cellsOf f.type))=some y:=by
 obtain⟨xs,n,hn,_,hl,hx,hf⟩:=DataW.trod_struct ht h;refine⟨n,hn,hl,fun i f hif=>?_⟩
 have hi:i<xs.length:=by
  rw[hx];rcases MY i fs.size with k|k
  ·exact k
  ·rw[ND k]at hif;cases hif
 exact⟨xs[i],by rw[hf i f hif];exact MQ hi⟩
theorem nI{t e:TypeId}{τ:Ty}{fuel:Nat}{cs:List Value}{x:DataW H×List MemPlace}(ht:P.underlying t=some (.slice e))(hc:P.cellsOf e=ab τ)(hw:0<ab τ)
 (h:DataW.trod enc P w base (fun _=>true) held fuel t cs=some x)
 (hel:∀(n:Nat)(ds:List Value)(y:DataW H×List MemPlace),fuel=n+1->DataW.trod enc P w base (fun _=>true) held n e ds=some y->∃z:den τ,VL (Om0 w) (cells τ z) ds) :
  ∃(l:List (den τ))(v:Value),cs=[v]/\V (Om0 w) (.lst τ l none) v:=by
 have h0:=h;rcases Pu ht h with⟨rfl,_⟩|⟨a,len,cap,elems,rest,n,hfu,rfl,_,_,hlc,hcm,hlen,hels,hrest,_⟩
 ·exact⟨[],_,rfl,.lstNil τ none (fun id hid=>by cases hid)⟩
 ·by_cases hcap:cap=0
  ·have:len=0:=by omega
   subst hcap this;exact⟨[],_,rfl,.lstVoid τ a⟩
  ·refine MA ht hc h0 hel fun a' len' cap' e'=>?_;simp only[O2,O3,Xs,NP]at e';obtain⟨rfl,rfl,rfl⟩:=e'
   have hr:∃(ad:Addr)(y:DataW H×List MemPlace),ad=a/\(w.cells? base ad (P.cellsOf e)).bind (DataW.trod enc P w base (fun _=>true) held n e)=some y:=by
    by_cases hl:len=0
    ·obtain⟨r1,r2⟩:=hrest rfl;have:=r2 0 (by omega);rw[hl]at this;refine⟨_,_,?_,this.trans (MQ (by omega))⟩;simp[Addr.add]
    ·have:=hels 0 (by omega);refine⟨_,_,?_,this.trans (MQ (by omega))⟩;simp[Addr.add]
   obtain⟨ad,y,rfl,hy⟩:=hr;rw[O7]at hy;obtain⟨ds,hd,_⟩:=hy;obtain⟨_,hdl,hdc⟩:=PK hd;have:=hdc 0 (by rw[hc];exact hw);have ha:ad.add 0=ad:=by simp[Addr.add]
   rw[ha,MQ (by rw[hdl,hc];exact hw)]at this;unfold World.cell? at this;split at this
   ·split at this
    ·cases this
    ·rename_i hs;cases hsp:ad.spot
     ·rfl
     ·rw[hsp]at hs;exact absurd rfl hs
   ·cases this
structure ShapeAt(P:Program)(t:TypeId):Prop where
 ex:∃(f0 f1 f2 f3 f4:Field)(e:TypeId),P.underlying t=some (.struct #[f0,f1,f2,f3,f4])/\P.cellsOf t=5/\
  (f0.offset=0/\f1.offset=1/\f2.offset=2/\f3.offset=3/\f4.offset=4)/\
  (P.cellsOf f0.type=1/\P.cellsOf f1.type=1/\P.cellsOf f2.type=1/\P.cellsOf f3.type=1/\P.cellsOf f4.type=1)/\
  P.underlying f0.type=some (.int .i64)/\P.underlying f1.type=some .string/\P.underlying f2.type=some .string/\P.underlying f3.type=some (.slice e)/\P.underlying e=some .string/\P.cellsOf e=1/\P.underlying f4.type=some (.slice t)
theorem Ec{t:TypeId}(hs:ShapeAt P t):∀(fuel:Nat)(cs:List Value)(x:DataW H×List MemPlace),DataW.trod enc P w base (fun _=>true) held fuel t cs=some x->∃s:Shape,VL (Om0 w) (cells (.st .shape) s) cs:=by
 obtain⟨f0,f1,f2,f3,f4,e,ht,hc,⟨o0,o1,o2,o3,o4⟩,⟨c0,c1,c2,c3,c4⟩,u0,u1,u2,u3,us,ce,u4⟩:=hs;intro fuel
 induction fuel using Nat.strongRecOn with
 |_ fuel ih=>
 intro cs x h;obtain⟨n,hn,hl,hf⟩:=qR ht h;rw[hc]at hl;obtain⟨y0,h0⟩:=hf 0 f0 rfl;obtain⟨y1,h1⟩:=hf 1 f1 rfl;obtain⟨y2,h2⟩:=hf 2 f2 rfl;obtain⟨y3,h3⟩:=hf 3 f3 rfl;obtain⟨y4,h4⟩:=hf 4 f4 rfl
 match cs,hl with
 |[a0,a1,a2,a3,a4],_=>
  rw[o0,c0]at h0;rw[o1,c1]at h1;rw[o2,c2]at h2;rw[o3,c3]at h3;rw[o4,c4]at h4;simp only[Ot,Oe,NW,OI]at h0 h1 h2 h3 h4;obtain⟨k,e0,v0⟩:=kL u0 h0;obtain⟨p,v,e1,v1⟩:=mZ u1 h1;obtain⟨m,v',e2,v2⟩:=mZ u2 h2;obtain⟨ns,v'',e3,v3⟩:=nI (τ:=.str) u3 (by rw[ce];rfl) (by decide) h3 fun n' ds y _ hy=>by obtain⟨s,v,rfl,hv⟩:=mZ us hy;exact⟨s,VL.cons hv .nil⟩
  obtain⟨ps,v''',e4,v4⟩:=nI (τ:=.st .shape) u4 (by rw[hc];rfl) (by decide) h4 fun n' ds y hn' hy=>ih n' (by omega) ds y hy;simp only[O2,NP]at e0 e1 e2 e3 e4;subst e0 e1 e2 e3 e4;exact⟨⟨k,p,m,ns,ps⟩,VL.cons v0 (VL.cons v1 (VL.cons v2 (VL.cons v3 (VL.cons v4 .nil))))⟩
structure ItemAt(P:Program)(t:TypeId):Prop where
 ex:∃(f0 f1 f2:Field),P.underlying t=some (.struct #[f0,f1,f2])/\P.cellsOf t=7/\(f0.offset=0/\f1.offset=1/\f2.offset=2)/\
  (P.cellsOf f0.type=1/\P.cellsOf f1.type=1/\P.cellsOf f2.type=5)/\P.underlying f0.type=some (.int .i64)/\P.underlying f1.type=some .string/\ShapeAt P f2.type
end Go.AL
end
noncomputable section
namespace Go.AL
open Go.ChangeShapes Go.WideShapes Go.RowKit
abbrev lR(w:World):Tabs:=⟨fun b o v=>b<8/\w.cell? ⟨b,o,none⟩=some v,fun b x=>b<8/\w.heap[b]?=some x⟩
variable [Tabs]
variable {H:Type} {enc:TypeId×Value->H} {P:Program} {w:World} {base:Nat} {held:Bool}
structure TokAt(P:Program)(t:TypeId):Prop where
 ex:∃(f0 f1 f2:Field),P.underlying t=some (.struct #[f0,f1,f2])/\P.cellsOf t=3/\(f0.offset=0/\f1.offset=1/\f2.offset=2)/\
  (P.cellsOf f0.type=1/\P.cellsOf f1.type=1/\P.cellsOf f2.type=1)/\P.underlying f0.type=some (.int .i64)/\P.underlying f1.type=some .string/\P.underlying f2.type=some (.int .i64)
theorem Jd{t:TypeId}(ht:P.underlying t=some (.int .i64)){r:Reach}{b0:Nat}{v:Value}{d:DataW H}{ps:List MemPlace}(hv:Value.okWide P w r b0 t v)(h:DataW.Trod enc P w base (fun _=>true) held t v d ps):∃n:Int,V (Om0 w) (.int .i64 n) v:=by obtain⟨n,rfl,_,_,hw⟩:=open_int ht hv h;simp only[Lit.wf,MR,MV]at hw;exact⟨n,.int _ n hw.1 hw.2⟩
end Go.AL
end
noncomputable section
namespace Go.AL
open Go.ChangeShapes Go.WideShapes Go.RowKit
variable [Tabs]
variable {H:Type} {enc:TypeId×Value->H} {P:Program} {w:World} {base:Nat} {held:Bool}
structure BindAt(P:Program)(t:TypeId):Prop where
 ex:∃(f0 f1 f2:Field),P.underlying t=some (.struct #[f0,f1,f2])/\P.cellsOf t=7/\(f0.offset=0/\f1.offset=1/\f2.offset=2)/\
  (P.cellsOf f0.type=1/\P.cellsOf f1.type=1/\P.cellsOf f2.type=5)/\P.underlying f0.type=some .string/\P.underlying f1.type=some .string/\ShapeAt P f2.type
structure EnvAt(P:Program)(t:TypeId):Prop where
 ex:∃(f0 f1 f2 f3:Field)(e:TypeId),P.underlying t=some (.struct #[f0,f1,f2,f3])/\P.cellsOf t=4/\(f0.offset=0/\f1.offset=1/\f2.offset=2/\f3.offset=3)/\
  (P.cellsOf f0.type=1/\P.cellsOf f1.type=1/\P.cellsOf f2.type=1/\P.cellsOf f3.type=1)/\P.underlying f0.type=some .string/\
  (P.underlying f1.type=some (.slice e)/\P.underlying f2.type=some (.slice e)/\P.underlying f3.type=some (.slice e))/\BindAt P e
end Go.AL
end
section
namespace Go.Proofs.YtalkpiobgooadaaGreatDoor.Join
open Go.AL Go.AL.Seat Go.ChangeShapes Go.WideShapes Go.RowKit Go.Lib Go.Shelf
set_option maxRecDepth 1000000
theorem own:ownKnob Tryz.prog.godebug=none:=by kernel_rfl
theorem KO:laidOutB Tryz.prog=true:=by kernel_rfl
theorem undB:Tryz.prog.underlying 4=some .bool:=by kernel_rfl
theorem undI:Tryz.prog.underlying 3=some (.int .i64):=by kernel_rfl
theorem MB:Tryz.prog.readableRec 3=true:=by kernel_rfl
theorem dI:40<Tryz.prog.types.size:=Xo (by kernel_rfl)
def laid:List (String×DataW Unit):=Rows.evalStepsRow.laid
theorem MC:(Rows.laid_unicode_utf8_acceptRanges:DataW Unit)=acceptData:=by kernel_rfl
theorem MD{W:World}(h:W.ShapedOpen Tryz.prog):∃m,W.cell? ⟨2,0,none⟩=some (.int .i64 m):=
 cell_of_shapedOpen_int (t:=3) (zero:=#[.int .i64 0]) h (Xo (by kernel_rfl)) (by kernel_rfl) rfl (by kernel_rfl) (by kernel_rfl) undI
theorem ME{W:World}(h:laidMet Tryz.prog laid W):Utf8Tabs 0 1 W:=
 utf8Tabs_of_readsT (ρ:=Tryz.lays196_ren) (U8Types.of196 Tryz.lays196) ⟨by kernel_rfl,by kernel_rfl,by kernel_rfl,by kernel_rfl,by kernel_rfl,by kernel_rfl,by kernel_rfl⟩
  (Pinned.utf8First_eq ▸ laidMet.reads h (by simp[laid,Rows.evalStepsRow,Rows.laid_unicode_utf8_first])) (MC ▸ laidMet.reads h (by simp[laid,Rows.evalStepsRow]))
theorem Je{W:World}(h:laidMet Tryz.prog laid W)(hs:W.ShapedOpen Tryz.prog):@SeatLaid (lR W):=by
 letI:Tabs:=lR W
 obtain⟨m,hm⟩:=MD hs;obtain⟨u1,u2⟩:=ME h;exact⟨⟨m,by decide,hm⟩,fun c hc=>⟨by decide,u1 c hc⟩,fun i hi=>⟨⟨by decide,(u2 i hi).1⟩,by decide,(u2 i hi).2⟩⟩
theorem KP:(Rows.laid_internal_strconv_uint64pow10:DataW Unit)=tabData .u64 pow10Tab:=by simp only[tabData,pow10Tab];rfl
theorem MF{W:World}(h:laidMet Tryz.prog laid W):TabIs Tryz.prog W "internal/strconv.uint64pow10" .u64 pow10Tab:=by obtain ⟨g,t,cs,fuel,p,hg,hty,hvar,hd⟩:=laidMet.reads h (n:= "internal/strconv.uint64pow10") (d:=Rows.laid_internal_strconv_uint64pow10) (by simp [laid,Rows.evalStepsRow]);obtain rfl:=Nk ((show Tryz.prog.globalNamed "internal/strconv.uint64pow10"=some 5 by kernel_rfl).symm.trans hg);obtain rfl:=Nk ((show (Tryz.prog.globals[5]?).map (·.type)=some 343 by kernel_rfl).symm.trans hty);rw [KP] at hd;have hcs:=cells_of_tab (P:=Tryz.prog) (n:=20) (show Tryz.prog.underlying 343=some (.array 20 232) by kernel_rfl) (show Tryz.prog.underlying 232=some (.int .u64) by kernel_rfl) (by kernel_rfl) (by kernel_rfl) hd;unfold TabIs;rw [hvar,<-hcs]
theorem KQ{W:World}(h:laidMet Tryz.prog laid W):@SeatPow (lR W):=by
 letI:Tabs:=lR W
 have hp:=MF h;unfold TabIs World.var? at hp;rw [show Tryz.prog.globalNamed "internal/strconv.uint64pow10"=some 5 by kernel_rfl] at hp;simp only [Pr] at hp;refine ⟨?_⟩;unfold wG
 cases hw:W.heap[5]? with
 |none=>rw[hw]at hp;cases hp
 |some o=>
  rw[hw]at hp
  cases o with
  |cells cs t fz=>obtain rfl:=Nk hp;exact⟨t,fz,by decide,hw⟩
  |_=>cases hp
def z32:List Int:=[0,1,28,2,29,14,24,3,30,22,20,15,25,17,4,8,31,27,13,23,21,19,16,7,26,12,18,6,11,5,10,9]
def z64:List Int:=[0,1,56,2,57,49,28,3,61,58,42,50,38,29,17,4,62,47,59,36,45,43,51,22,53,39,33,30,24,18,12,5,63,55,48,27,60,41,37,16,46,35,44,21,52,32,23,11,54,26,40,15,34,20,31,10,25,14,19,9,13,8,7,6]
def zPow:List Int:=[1,10,100,1000,10000,100000,1000000,10000000,100000000,1000000000,10000000000,100000000000,1000000000000,10000000000000,100000000000000,1000000000000000,10000000000000000,100000000000000000,1000000000000000000,10000000000000000000]
def zAcc:List Int:=[128,191,160,191,128,159,144,191,128,143,0,0,0,0,0,0,0,0,0,0,0,0,0,0,0,0,0,0,0,0,0,0]
def M9:List Int:=List.map Int.ofNat Pinned.utf8FirstZ
noncomputable def mA(os:Os):World:=
 let N:=(World.settled Tryz.prog os).heap.size
 let w0:=World.holding Tryz.prog os ⟨#[.cells #[.string ⟨#[118,97,108,117,101,32,111,117,116,32,111,102,32,114,97,110,103,101]⟩] 354,.cells #[.string ⟨#[105,110,118,97,108,105,100,32,115,121,110,116,97,120]⟩] 354],#[],[]⟩
 let put (h:Array Obj) (g:Nat) (cs:Array Value):Array Obj:=h.modify g fun
  |.cells _ t frozen=>.cells cs t frozen
  |o=>o
 let h0:=put (put w0.heap 3 #[.iface 352 (.pointer (some ⟨N+1,0,none⟩))]) 4 #[.iface 352 (.pointer (some ⟨N,0,none⟩))]
 let h1:=put (put (put h0 5 (zPow.map (Value.int .u64)).toArray) 6 (z32.map (Value.int .u8)).toArray) 7 (z64.map (Value.int .u8)).toArray
 let h2:=put (put h1 0 (M9.map (Value.int .u8)).toArray) 1 (zAcc.map (Value.int .u8)).toArray
 {w0 with heap:=h2}
noncomputable abbrev N0:Nat:=(World.settled Tryz.prog default).heap.size
theorem Ma(os:Os)(args:Array Value):LaidIn Tryz.prog ((mA os).forCall (fun _ _=>0) ⟨#[],args,[]⟩).memory laid [6,7,5,1,4,N0,3,N0+1,0]:=
 LaidIn.of_run [6,7,5,1,4,N0,3,N0+1,0] 10 (by kernel_rfl) (by kernel_rfl) (by kernel_rfl) (by kernel_rfl)
theorem Jf(os:Os)(args:Array Value):laidMet Tryz.prog laid ((mA os).forCall (fun _ _=>0) ⟨#[],args,[]⟩).memory:=(Ma os args).met
end Go.Proofs.YtalkpiobgooadaaGreatDoor.Join
end
noncomputable section
namespace Go.AL
open Go.ChangeShapes Go.WideShapes Go.RowKit
variable [Tabs]
structure GoodR{H:Type}(P:Program)(N M:Nat)(g:TypeId->DataW H->Prop):Prop where
 str:∀t s,P.underlying t=some .string->g t (.lit (.string s))->s.length<=M
 len:∀t e es sp,P.underlying t=some (.slice e)->g t (.slice es sp)->16<=P.bytesOf e->es.length<=N
 el:∀t e es sp,P.underlying t=some (.slice e)->g t (.slice es sp)->∀x∈es,g e x
 part:∀t fs ps,P.underlying t=some (.struct fs)->g t (.agg ps)->∀(i:Nat)(f:Field) p,fs[i]?=some f->ps[i]?=some p->g f.type p
variable {H:Type} {enc:TypeId×Value->H} {P:Program} {w:World} {base:Nat} {held:Bool}
theorem Jg{N M:Nat}{g:TypeId->DataW H->Prop}(hb:GoodR P N M g){t e:TypeId}{τ:Ty}{Q:den τ->Prop}{fuel:Nat}{cs:List Value}{x:DataW H×List MemPlace}(ht:P.underlying t=some (.slice e))(hc:P.cellsOf e=ab τ)(h:DataW.trod enc P w base (fun _=>true) held fuel t cs=some x)(hg:g t x.1)
 (hel:∀(n:Nat)(ds:List Value)(y:DataW H×List MemPlace),fuel=n+1->DataW.trod enc P w base (fun _=>true) held n e ds=some y->g e y.1->∃z:den τ,VL (Om0 w) (cells τ z) ds/\Q z)
 (hsp:∀a len cap,cs=[.slice (some a) len cap]->a.spot=none):∃(l:List (den τ))(v:Value),cs=[v]/\V (Om0 w) (.lst τ l none) v/\(16<=P.bytesOf e->l.length<=N)/\∀z∈l,Q z:=by
 rcases Pu ht h with⟨rfl,_⟩|⟨a,len,cap,elems,rest,n,hfu,rfl,hx,_,hlc,hcm,hlen,hels,_,_⟩
 ·exact⟨[],_,rfl,.lstNil τ none (fun id hid=>by cases hid),fun _=>N2 _,fun z hz=>by cases hz⟩
 ·have hs:=hsp a len cap rfl;obtain⟨bl,off,spot⟩:=a;simp only at hs;subst hs
  have each:∀i,i<len->∃z:den τ,∃ds:List Value,ds.length=ab τ/\(∀j,j<ab τ->w.cell? ⟨bl,off+(i *ab τ+j),none⟩=ds[j]?)/\VL (Om0 w) (cells τ z) ds/\Q z:=by
   intro i hi;have h1:=hels i hi;obtain⟨y,hy⟩:∃y,elems[i]?=some y:=⟨_,MQ (by omega)⟩;rw[hy,hc,O7]at h1;obtain⟨ds,hd,hy'⟩:=h1;obtain⟨_,hdl,hdc⟩:=PK hd
   obtain⟨z,hz,hq⟩:=hel n ds y hfu hy' (by
    rw[hx]at hg;exact hb.el _ _ _ _ ht hg _ (List.mem_map_of_mem (Nf hy)))
   refine⟨z,ds,hdl,fun j hj=>?_,hz,hq⟩;have:=hdc j hj
   have ha:∀(o n:Nat),(⟨bl,o,none⟩:Addr).add n=⟨bl,o+n,none⟩:=by
    intro o n;unfold Addr.add;by_cases h0:n=0
    ·subst h0;rfl
    ·rw[MS h0]
   rw[ha,ha,OD]at this;exact this
  have hz:∃l:List (den τ),l.length=len/\∀i z,l[i]?=some z->∃ds:List Value,ds.length=ab τ/\(∀j,j<ab τ->w.cell? ⟨bl,off+(i *ab τ+j),none⟩=ds[j]?)/\VL (Om0 w) (cells τ z) ds/\Q z:=by
   refine⟨(List.range len).attach.map fun i=>(each i.1 (Ou.1 i.2)).choose,by simp,fun i z hi=>?_⟩;have hil:i<len:=by have:=(Nw.1 hi).1;simpa using this
   simp only[Np,N3]at hi;obtain⟨⟨k,hk⟩,h1,h2⟩:=hi;have hki:k=i:=by have:=Nw.1 h1;obtain⟨_,e⟩:=this;have:=Oz Subtype.val e;simpa using this.symm
   subst hki;rw[<-h2];exact(each k (Ou.1 hk)).choose_spec
  obtain⟨l,hll,hle⟩:=hz;have hQ:∀z∈l,Q z:=fun z hz=>by obtain⟨i,hi⟩:=OC hz;obtain⟨_,_,_,_,hq⟩:=hle i z hi;exact hq
  have hL:16<=P.bytesOf e->l.length<=N:=fun h16=>by
   rw[hx]at hg;rw[hll,<-hlen];have:=hb.len _ _ _ _ ht hg h16
   rwa [NT]at this
  refine⟨l,_,rfl,?_,hL,hQ⟩;have key:=V.lst (Ω:=Om0 w) τ l none bl off cap (fun i j=>(w.cell? ⟨bl,off+(i *ab τ+j),none⟩).getD undef) (by omega) (by unfold maxLen at hcm;unfold aY;omega) (fun id hid=>by cases hid) (fun i z hz j c hj=>?_) (fun i z hz j c hj=>?_)
  ·rw[hll]at key;exact key
  ·obtain⟨ds,d1,d2,d3,_⟩:=hle i z hz;have hjw:j<ab τ:=by rw[<-aJ τ z];exact(Nw.1 hj).1
   have hv:w.cell? ⟨bl,off+(i *ab τ+j),none⟩=some ds[j]:=by rw[d2 j hjw];exact MQ (by omega)
   refine⟨⟨_,hv⟩,?_⟩;show w.cell? _=_;rw[hv];rfl
  ·obtain⟨ds,d1,d2,d3,_⟩:=hle i z hz;have hjw:j<ab τ:=by rw[<-aJ τ z];exact(Nw.1 hj).1
   have hd:ds[j]?=some ds[j]:=MQ (by omega);rw[d2 j hjw,hd];exact d3.2 j c ds[j] hj hd
theorem xp{N M:Nat}{g:TypeId->DataW H->Prop}(hb:GoodR P N M g){t e:TypeId}{τ:Ty}{Q:den τ->Prop}{fuel:Nat}{cs:List Value}{x:DataW H×List MemPlace}(ht:P.underlying t=some (.slice e))(hc:P.cellsOf e=ab τ)(hw:0<ab τ)
 (h:DataW.trod enc P w base (fun _=>true) held fuel t cs=some x)(hg:g t x.1)
 (hel:∀(n:Nat)(ds:List Value)(y:DataW H×List MemPlace),fuel=n+1->DataW.trod enc P w base (fun _=>true) held n e ds=some y->g e y.1->∃z:den τ,VL (Om0 w) (cells τ z) ds/\Q z) :
  ∃(l:List (den τ))(v:Value),cs=[v]/\V (Om0 w) (.lst τ l none) v/\(16<=P.bytesOf e->l.length<=N)/\∀z∈l,Q z:=by
 have h0:=h;rcases Pu ht h with⟨rfl,_⟩|⟨a,len,cap,elems,rest,n,hfu,rfl,_,_,hlc,hcm,hlen,hels,hrest,_⟩
 ·exact⟨[],_,rfl,.lstNil τ none (fun id hid=>by cases hid),fun _=>N2 _,fun z hz=>by cases hz⟩
 ·by_cases hcap:cap=0
  ·have:len=0:=by omega
   subst hcap this;exact⟨[],_,rfl,.lstVoid τ a,fun _=>N2 _,fun z hz=>by cases hz⟩
  ·refine Jg hb ht hc h0 hg hel fun a' len' cap' e'=>?_;simp only[O2,O3,Xs,NP]at e';obtain⟨rfl,rfl,rfl⟩:=e'
   have hr:∃(ad:Addr)(y:DataW H×List MemPlace),ad=a/\(w.cells? base ad (P.cellsOf e)).bind (DataW.trod enc P w base (fun _=>true) held n e)=some y:=by
    by_cases hl:len=0
    ·obtain⟨r1,r2⟩:=hrest rfl;have:=r2 0 (by omega);rw[hl]at this;refine⟨_,_,?_,this.trans (MQ (by omega))⟩;simp[Addr.add]
    ·have:=hels 0 (by omega);refine⟨_,_,?_,this.trans (MQ (by omega))⟩;simp[Addr.add]
   obtain⟨ad,y,rfl,hy⟩:=hr;rw[O7]at hy;obtain⟨ds,hd,_⟩:=hy;obtain⟨_,hdl,hdc⟩:=PK hd;have:=hdc 0 (by rw[hc];exact hw);have ha:ad.add 0=ad:=by simp[Addr.add]
   rw[ha,MQ (by rw[hdl,hc];exact hw)]at this;unfold World.cell? at this;split at this
   ·split at this
    ·cases this
    ·rename_i hs;cases hsp:ad.spot
     ·rfl
     ·rw[hsp]at hs;exact absurd rfl hs
   ·cases this
theorem oD{N M:Nat}{g:TypeId->DataW H->Prop}(hb:GoodR P N M g){sp:Nat->Bool}{t:TypeId}{fs:Array Field}{fuel:Nat}{cs:List Value}{x:DataW H×List MemPlace}(ht:P.underlying t=some (.struct fs))(h:DataW.trod enc P w base sp held fuel t cs=some x)(hg:g t x.1) :
  ∃n,fuel=n+1/\cs.length=P.cellsOf t/\∀(i:Nat)(f:Field),fs[i]?=some f->∃y,DataW.trod enc P w base sp held n f.type ((cs.drop f.offset).take (P.cellsOf f.type))=some y/\g f.type y.1:=by
 obtain⟨xs,n,hn,hx,hl,hs,hf⟩:=DataW.trod_struct ht h;refine⟨n,hn,hl,fun i f hif=>?_⟩
 have hi:i<xs.length:=by
  rw[hs];rcases MY i fs.size with k|k
  ·exact k
  ·rw[ND k]at hif;cases hif
 refine⟨xs[i],by rw[hf i f hif];exact MQ hi,?_⟩;rw[hx]at hg;exact hb.part _ _ _ ht hg i f _ hif (by rw[Np,MQ hi];rfl)
theorem Mb{N M:Nat}{g:TypeId->DataW H->Prop}(hb:GoodR P N M g){sp:Nat->Bool}{t:TypeId}{fuel:Nat}{cs:List Value}{x:DataW H×List MemPlace}(ht:P.underlying t=some .string)(h:DataW.trod enc P w base sp held fuel t cs=some x)(hg:g t x.1) :
  ∃(s:Str)(v:Value),cs=[v]/\V (Om0 w) (.str s) v/\s.length<=M:=by
 obtain⟨s,rfl,hx,hw⟩:=DataW.trod_string ht h;refine⟨s.data.toList,_,rfl,?_,by rw[hx]at hg;exact hb.str _ _ ht hg⟩;have e:s=⟨s.data.toList.toArray⟩:=by cases s;simp
 have hl:s.data.toList.length<=aY:=by have:s.data.size=s.size:=rfl;unfold maxLen at hw;unfold aY;simp only[On,this];omega
 have:=V.str (Ω:=Om0 w) s.data.toList hl;rw[<-e]at this;exact this
structure TermAt(P:Program)(t:TypeId):Prop where
 ex:∃(f0 f1 f2 f3 f4 f5 f6 f7 f8:Field)(e g:TypeId),P.underlying t=some (.struct #[f0,f1,f2,f3,f4,f5,f6,f7,f8])/\P.cellsOf t=9/\
  (f0.offset=0/\f1.offset=1/\f2.offset=2/\f3.offset=3/\f4.offset=4/\f5.offset=5/\f6.offset=6/\f7.offset=7/\f8.offset=8)/\
  (P.cellsOf f0.type=1/\P.cellsOf f1.type=1/\P.cellsOf f2.type=1/\P.cellsOf f3.type=1/\P.cellsOf f4.type=1/\P.cellsOf f5.type=1/\P.cellsOf f6.type=1/\P.cellsOf f7.type=1/\P.cellsOf f8.type=1)/\
  (P.underlying f0.type=some (.int .i64)/\P.underlying f1.type=some .string/\P.underlying f2.type=some .string/\P.underlying f3.type=some (.int .i64)/\P.underlying f4.type=some (.slice e)/\P.underlying f5.type=some (.slice e)/\
   P.underlying f6.type=some (.slice g)/\P.underlying f7.type=some (.slice t)/\P.underlying f8.type=some (.int .i64))/\(P.underlying e=some .string/\P.cellsOf e=1/\P.bytesOf e=16)/\ShapeAt P g
def gU(N M:Nat)(x:Trm):Bool:=decide (x.names.length<=N)&&decide (x.name.length<=M)
theorem Mc{N M:Nat}{g:TypeId->DataW H->Prop}(hb:GoodR P N M g){t:TypeId}(hs:TermAt P t):∀(fuel:Nat)(cs:List Value)(x:DataW H×List MemPlace),DataW.trod enc P w base (fun _=>true) held fuel t cs=some x->g t x.1->
  ∃s:Trm,VL (Om0 w) (cells (.st .term) s) cs/\Pd.allT (gU N M) s=true:=by
 obtain⟨f0,f1,f2,f3,f4,f5,f6,f7,f8,e,e6,ht,hc,⟨o0,o1,o2,o3,o4,o5,o6,o7,o8⟩,⟨c0,c1,c2,c3,c4,c5,c6,c7,c8⟩,⟨u0,u1,u2,u3,u4,u5,u6,u7,u8⟩,⟨us,ce,b16⟩,hg⟩:=hs;have cg:P.cellsOf e6=ab (.st .shape):=by obtain⟨_,_,_,_,_,_,_,hc,_⟩:=hg;rw[hc];rfl
 intro fuel
 induction fuel using Nat.strongRecOn with
 |_ fuel ih=>
 intro cs x h hN;obtain⟨n,hn,hl,hf⟩:=oD hb ht h hN;rw[hc]at hl;obtain⟨y0,h0,_⟩:=hf 0 f0 rfl;obtain⟨y1,h1,_⟩:=hf 1 f1 rfl;obtain⟨y2,h2,b2⟩:=hf 2 f2 rfl;obtain⟨y3,h3,_⟩:=hf 3 f3 rfl;obtain⟨y4,h4,b4⟩:=hf 4 f4 rfl;obtain⟨y5,h5,_⟩:=hf 5 f5 rfl;obtain⟨y6,h6,_⟩:=hf 6 f6 rfl;obtain⟨y7,h7,b7⟩:=hf 7 f7 rfl;obtain⟨y8,h8,_⟩:=hf 8 f8 rfl
 match cs,hl with
 |[a0,a1,a2,a3,a4,a5,a6,a7,a8],_=>
  rw[o0,c0]at h0;rw[o1,c1]at h1;rw[o2,c2]at h2;rw[o3,c3]at h3;rw[o4,c4]at h4;rw[o5,c5]at h5;rw[o6,c6]at h6;rw[o7,c7]at h7;rw[o8,c8]at h8;simp only[Ot,Oe,NW,OI]at h0 h1 h2 h3 h4 h5 h6 h7 h8;obtain⟨k,e0,v0⟩:=kL u0 h0;obtain⟨p,w1,e1,v1⟩:=mZ u1 h1;obtain⟨m,w2,e2,v2,l2⟩:=Mb hb u2 h2 b2;obtain⟨z,e3,v3⟩:=kL u3 h3;have strs:∀(n:Nat)(ds:List Value)(y:DataW H×List MemPlace),DataW.trod enc P w base (fun _=>true) held n e ds=some y->∃z:den .str,VL (Om0 w) (cells .str z) ds:=fun n ds y hy=>by obtain⟨s,v,rfl,hv⟩:=mZ us hy;exact⟨s,VL.cons hv .nil⟩
  obtain⟨ns,w4,e4,v4,l4,_⟩:=xp (τ:=.str) (Q:=fun _=>True) hb u4 ce (by decide) h4 b4 (fun n ds y _ hy _=>by obtain⟨z,hz⟩:=strs n ds y hy;exact⟨z,hz,trivial⟩);obtain⟨vs,w5,e5,v5⟩:=nI (τ:=.str) u5 ce (by decide) h5 (fun n ds y _ hy=>strs n ds y hy);obtain⟨ss,w6,e6,v6⟩:=nI (τ:=.st .shape) u6 cg (by decide) h6 (fun n ds y _ hy=>Ec hg n ds y hy);obtain⟨ps,w7,e7,v7,_,q7⟩:=xp (τ:=.st .term) (Q:=fun s=>Pd.allT (gU N M) s=true) hb u7 (by rw[hc];rfl) (by decide) h7 b7 (fun k ds y hk hy hle=>ih k (by omega) ds y hy hle);obtain⟨at_,e8,v8⟩:=kL u8 h8;simp only[O2,NP]at e0 e1 e2 e3 e4 e5 e6 e7 e8;subst e0 e1 e2 e3 e4 e5 e6 e7 e8;refine⟨⟨k,p,m,z,ns,vs,ss,ps,at_⟩,VL.cons v0 (VL.cons v1 (VL.cons v2 (VL.cons v3 (VL.cons v4 (VL.cons v5 (VL.cons v6 (VL.cons v7 (VL.cons v8 .nil)))))))),?_⟩;rw[Pd.allT_eq,MR,Pd.allTL_all,N6];refine⟨?_,q7⟩;unfold gU;rw[Xd (show ns.length<=N from l4 (Nat.le_of_eq b16.symm)),Xd (show m.length<=M from l2)];rfl
end Go.AL
end
noncomputable section
namespace Go.AL
open Go.ChangeShapes Go.WideShapes Go.RowKit
variable [Tabs]
theorem VL.app{Ω:Om}{xs bs:List AV}{cs ds:List Value}(h:VL Ω xs cs)(k:VL Ω bs ds):VL Ω (xs++bs) (cs++ds):=by
 induction xs generalizing cs with
 |nil=>have:cs=[]:=N5 h.1.symm;subst this;exact k
 |cons a xs ih=>
  match cs,h with
  |c::cs,h=>exact VL.cons (h.2 0 a c rfl rfl) (ih ⟨by have:=h.1;simpa using this,fun j x y hx hy=>h.2 (j+1) x y hx hy⟩)
variable {H:Type} {enc:TypeId×Value->H} {P:Program} {w:World} {base:Nat} {held:Bool}
theorem Gg{N M:Nat}{g:TypeId->DataW H->Prop}(hb:GoodR P N M g){t e:TypeId}{τ:Ty}{l:List (den τ)}{v:Value}{fuel:Nat}{x:DataW H×List MemPlace}(ht:P.underlying t=some (.slice e))(h16:16<=P.bytesOf e)
 (h:DataW.trod enc P w base (fun _=>true) held fuel t [v]=some x)(hg:g t x.1)(hv:V (Om0 w) (.lst τ l none) v):l.length<=N:=by
 rcases hv.lst_inv with⟨rfl,_⟩|⟨rfl,_⟩|⟨b,off,cap,vals,rfl,_⟩
 ·exact N2 _
 ·exact N2 _
 ·rcases Pu ht h with⟨hc,_⟩|⟨a,len,cap',elems,rest,n,hfu,hcs,hx,_,hlc,hcm,hlen,hels,_,_⟩
  ·simp at hc
  ·simp only[O2,O3,NP]at hcs;rw[hx]at hg;have:=hb.len _ _ _ _ ht hg h16;rw[NT]at this;omega
theorem dZ{N M:Nat}{g:TypeId->DataW H->Prop}(hb:GoodR P N M g){t e:TypeId}{fs:Array Field}{i:Nat}{f:Field}{τ:Ty}{l:List (den τ)}{as':List AV}{cs:List Value}{fuel:Nat}{x:DataW H×List MemPlace}(ht:P.underlying t=some (.struct fs))(hi:fs[i]?=some f)
 (h1:P.cellsOf f.type=1)(hf:P.underlying f.type=some (.slice e))(h16:16<=P.bytesOf e)(h:DataW.trod enc P w base (fun _=>true) held fuel t cs=some x)(hg:g t x.1)(hv:VL (Om0 w) as' cs)(hc:as'[f.offset]?=some (.lst τ l none)):l.length<=N:=by
 obtain⟨n,hn,hl,hfs⟩:=oD hb ht h hg;obtain⟨y,hy,gy⟩:=hfs i f hi;have hlt:f.offset<cs.length:=by rw[<-hv.1];exact(Nw.1 hc).1
 have e1:(cs.drop f.offset).take 1=[cs[f.offset]]:=by rw[OS hlt];rfl
 rw[h1,e1]at hy;exact Gg hb hf h16 hy gy (hv.2 f.offset _ _ hc (MQ hlt))
structure VersAt(P:Program)(t:TypeId):Prop where
 ex:∃(f0 f1 f2 f3:Field),P.underlying t=some (.struct #[f0,f1,f2,f3])/\P.cellsOf t=4/\(f0.offset=0/\f1.offset=1/\f2.offset=2/\f3.offset=3)/\
  (P.cellsOf f0.type=1/\P.cellsOf f1.type=1/\P.cellsOf f2.type=1/\P.cellsOf f3.type=1)/\P.underlying f0.type=some (.int .i64)/\P.underlying f1.type=some (.int .i64)/\P.underlying f2.type=some (.int .i64)/\P.underlying f3.type=some .string
theorem Jh{t:TypeId}(hs:VersAt P t)(fuel:Nat)(cs:List Value)(x:DataW H×List MemPlace)(h:DataW.trod enc P w base (fun _=>true) held fuel t cs=some x):∃s:Vers,VL (Om0 w) (cells (.st .version) s) cs:=by
 obtain⟨f0,f1,f2,f3,ht,hc,⟨o0,o1,o2,o3⟩,⟨c0,c1,c2,c3⟩,u0,u1,u2,u3⟩:=hs;obtain⟨n,hn,hl,hf⟩:=qR ht h;rw[hc]at hl;obtain⟨y0,h0⟩:=hf 0 f0 rfl;obtain⟨y1,h1⟩:=hf 1 f1 rfl;obtain⟨y2,h2⟩:=hf 2 f2 rfl;obtain⟨y3,h3⟩:=hf 3 f3 rfl
 match cs,hl with
 |[a0,a1,a2,a3],_=>rw[o0,c0]at h0;rw[o1,c1]at h1;rw[o2,c2]at h2;rw[o3,c3]at h3;simp only[Ot,Oe,NW,OI]at h0 h1 h2 h3;obtain⟨k0,e0,v0⟩:=kL u0 h0;obtain⟨k1,e1,v1⟩:=kL u1 h1;obtain⟨k2,e2,v2⟩:=kL u2 h2;obtain⟨k3,v',e3,v3⟩:=mZ u3 h3;simp only[O2,NP]at e0 e1 e2 e3;subst e0 e1 e2 e3;exact⟨⟨k0,k1,k2,k3⟩,VL.cons v0 (VL.cons v1 (VL.cons v2 (VL.cons v3 .nil)))⟩
structure BndAt(P:Program)(t:TypeId):Prop where
 ex:∃(f0 f1:Field),P.underlying t=some (.struct #[f0,f1])/\P.cellsOf t=5/\(f0.offset=0/\f1.offset=1)/\(P.cellsOf f0.type=1/\P.cellsOf f1.type=4)/\P.underlying f0.type=some (.int .i64)/\VersAt P f1.type
theorem MG{t:TypeId}(hs:BndAt P t)(fuel:Nat)(cs:List Value)(x:DataW H×List MemPlace)(h:DataW.trod enc P w base (fun _=>true) held fuel t cs=some x):∃s:Bnd,VL (Om0 w) (cells (.st .bound) s) cs:=by
 obtain⟨f0,f1,ht,hc,⟨o0,o1⟩,⟨c0,c1⟩,u0,u1⟩:=hs;obtain⟨n,hn,hl,hf⟩:=qR ht h;rw[hc]at hl;obtain⟨y0,h0⟩:=hf 0 f0 rfl;obtain⟨y1,h1⟩:=hf 1 f1 rfl
 match cs,hl with
 |[a0,a1,a2,a3,a4],_=>rw[o0,c0]at h0;rw[o1,c1]at h1;simp only[Ot,Oe,NW,OI]at h0 h1;obtain⟨k0,e0,v0⟩:=kL u0 h0;obtain⟨s,v1⟩:=Jh u1 _ _ _ h1;simp only[O2,NP]at e0;subst e0;exact⟨⟨k0,s⟩,VL.cons v0 (VL.app v1 .nil)⟩
structure ImpAt(P:Program)(t:TypeId):Prop where
 ex:∃(f0 f1 f2 f3:Field)(e:TypeId),P.underlying t=some (.struct #[f0,f1,f2,f3])/\P.cellsOf t=7/\(f0.offset=0/\f1.offset=1/\f2.offset=5/\f3.offset=6)/\
  (P.cellsOf f0.type=1/\P.cellsOf f1.type=4/\P.cellsOf f2.type=1/\P.cellsOf f3.type=1)/\P.underlying f0.type=some .string/\VersAt P f1.type/\P.underlying f2.type=some (.slice e)/\P.underlying f3.type=some (.int .i64)/\BndAt P e
theorem MH{t:TypeId}(hs:ImpAt P t)(fuel:Nat)(cs:List Value)(x:DataW H×List MemPlace)(h:DataW.trod enc P w base (fun _=>true) held fuel t cs=some x):∃s:Impt,VL (Om0 w) (cells (.st .imp) s) cs:=by
 obtain⟨f0,f1,f2,f3,e,ht,hc,⟨o0,o1,o2,o3⟩,⟨c0,c1,c2,c3⟩,u0,u1,u2,u3,hb⟩:=hs;obtain⟨n,hn,hl,hf⟩:=qR ht h;rw[hc]at hl;obtain⟨y0,h0⟩:=hf 0 f0 rfl;obtain⟨y1,h1⟩:=hf 1 f1 rfl;obtain⟨y2,h2⟩:=hf 2 f2 rfl;obtain⟨y3,h3⟩:=hf 3 f3 rfl;have hw:P.cellsOf e=ab (.st .bound):=by obtain⟨_,_,_,hc,_⟩:=hb;rw[hc];rfl
 match cs,hl with
 |[a0,a1,a2,a3,a4,a5,a6],_=>rw[o0,c0]at h0;rw[o1,c1]at h1;rw[o2,c2]at h2;rw[o3,c3]at h3;simp only[Ot,Oe,NW,OI]at h0 h1 h2 h3;obtain⟨k0,v',e0,v0⟩:=mZ u0 h0;obtain⟨s,v1⟩:=Jh u1 _ _ _ h1;obtain⟨l,w2,e2,v2⟩:=nI (τ:=.st .bound) u2 hw (by decide) h2 (fun n ds y _ hy=>MG hb n ds y hy);obtain⟨k3,e3,v3⟩:=kL u3 h3;simp only[O2,NP]at e0 e2 e3;subst e0 e2 e3;exact⟨⟨k0,s,l,k3⟩,VL.cons v0 (VL.app v1 (VL.cons v2 (VL.cons v3 .nil)))⟩
def tJ(N:Nat)(s:Dcl):Prop:=s.shape.names.length<=N/\s.shape.parts.length<=N/\s.term.names.length<=N/\s.term.vars.length<=N/\s.term.shapes.length<=N/\s.term.parts.length<=N
def ky(P:Program)(t:TypeId):Prop:=∀(fs:Array Field)(i:Nat)(f:Field)(e:TypeId),P.underlying t=some (.struct fs)->fs[i]?=some f->P.underlying f.type=some (.slice e)->16<=P.bytesOf e
theorem Au{N M:Nat}{g:TypeId->DataW H->Prop}(hb:GoodR P N M g){t:TypeId}(hs:ShapeAt P t)(hw:ky P t){fuel:Nat}{cs:List Value}{x:DataW H×List MemPlace}{s:Shape}(h:DataW.trod enc P w base (fun _=>true) held fuel t cs=some x)(hg:g t x.1)
 (hv:VL (Om0 w) (cells (.st .shape) s) cs):s.names.length<=N/\s.parts.length<=N:=by
 obtain⟨f0,f1,f2,f3,f4,e,ht,hc,⟨o0,o1,o2,o3,o4⟩,⟨c0,c1,c2,c3,c4⟩,u0,u1,u2,u3,us,ce,u4⟩:=hs;exact⟨dZ (i:=3) (f:=f3) (τ:=.str) hb ht rfl c3 u3 (hw _ 3 f3 _ ht rfl u3) h hg hv (by rw[o3];rfl),dZ (i:=4) (f:=f4) (τ:=.st .shape) hb ht rfl c4 u4 (hw _ 4 f4 _ ht rfl u4) h hg hv (by rw[o4];rfl)⟩
theorem Da{N M:Nat}{g:TypeId->DataW H->Prop}(hb:GoodR P N M g){t:TypeId}(hs:TermAt P t)(hw:ky P t){fuel:Nat}{cs:List Value}{x:DataW H×List MemPlace}{s:Trm}(h:DataW.trod enc P w base (fun _=>true) held fuel t cs=some x)(hg:g t x.1)
 (hv:VL (Om0 w) (cells (.st .term) s) cs):s.names.length<=N/\s.vars.length<=N/\s.shapes.length<=N/\s.parts.length<=N:=by
 obtain⟨f0,f1,f2,f3,f4,f5,f6,f7,f8,e,e6,ht,hc,⟨o0,o1,o2,o3,o4,o5,o6,o7,o8⟩,⟨c0,c1,c2,c3,c4,c5,c6,c7,c8⟩,⟨u0,u1,u2,u3,u4,u5,u6,u7,u8⟩,⟨us,ce,b16⟩,hg'⟩:=hs
 exact⟨dZ (i:=4) (f:=f4) (τ:=.str) hb ht rfl c4 u4 (hw _ 4 f4 _ ht rfl u4) h hg hv (by rw[o4];rfl),dZ (i:=5) (f:=f5) (τ:=.str) hb ht rfl c5 u5 (hw _ 5 f5 _ ht rfl u5) h hg hv (by rw[o5];rfl),
  dZ (i:=6) (f:=f6) (τ:=.st .shape) hb ht rfl c6 u6 (hw _ 6 f6 _ ht rfl u6) h hg hv (by rw[o6];rfl),dZ (i:=7) (f:=f7) (τ:=.st .term) hb ht rfl c7 u7 (hw _ 7 f7 _ ht rfl u7) h hg hv (by rw[o7];rfl)⟩
structure DclAt(P:Program)(t:TypeId):Prop where
 ex:∃(f0 f1 f2 f3 f4:Field),P.underlying t=some (.struct #[f0,f1,f2,f3,f4])/\P.cellsOf t=17/\(f0.offset=0/\f1.offset=1/\f2.offset=2/\f3.offset=7/\f4.offset=16)/\
  (P.cellsOf f0.type=1/\P.cellsOf f1.type=1/\P.cellsOf f2.type=5/\P.cellsOf f3.type=9/\P.cellsOf f4.type=1)/\P.underlying f0.type=some (.int .i64)/\P.underlying f1.type=some .string/\(ShapeAt P f2.type/\ky P f2.type)/\(TermAt P f3.type/\ky P f3.type)/\P.underlying f4.type=some (.int .i64)
theorem MI{N M:Nat}{g:TypeId->DataW H->Prop}(hb:GoodR P N M g){t:TypeId}(hs:DclAt P t)(fuel:Nat)(cs:List Value)(x:DataW H×List MemPlace)(h:DataW.trod enc P w base (fun _=>true) held fuel t cs=some x)(hg:g t x.1) :
  ∃s:Dcl,VL (Om0 w) (cells (.st .decl) s) cs/\Pd.allT (gU N M) s.term=true/\tJ N s:=by
 obtain⟨f0,f1,f2,f3,f4,ht,hc,⟨o0,o1,o2,o3,o4⟩,⟨c0,c1,c2,c3,c4⟩,u0,u1,⟨u2,q2⟩,⟨u3,q3⟩,u4⟩:=hs;obtain⟨n,hn,hl,hf⟩:=oD hb ht h hg;rw[hc]at hl;obtain⟨y0,h0,_⟩:=hf 0 f0 rfl;obtain⟨y1,h1,_⟩:=hf 1 f1 rfl;obtain⟨y2,h2,b2⟩:=hf 2 f2 rfl;obtain⟨y3,h3,b3⟩:=hf 3 f3 rfl;obtain⟨y4,h4,_⟩:=hf 4 f4 rfl
 match cs,hl with
 |[a0,a1,a2,a3,a4,a5,a6,a7,a8,a9,a10,a11,a12,a13,a14,a15,a16],_=>rw[o0,c0]at h0;rw[o1,c1]at h1;rw[o2,c2]at h2;rw[o3,c3]at h3;rw[o4,c4]at h4;simp only[Ot,Oe,NW,OI]at h0 h1 h2 h3 h4;obtain⟨k0,e0,v0⟩:=kL u0 h0;obtain⟨k1,v',e1,v1⟩:=mZ u1 h1;obtain⟨s,v2⟩:=Ec u2 _ _ _ h2;obtain⟨m,v3,q⟩:=Mc hb u3 _ _ _ h3 b3;obtain⟨l1,l2⟩:=Au hb u2 q2 h2 b2 v2;obtain⟨l3,l4,l5,l6⟩:=Da hb u3 q3 h3 b3 v3;obtain⟨k4,e4,v4⟩:=kL u4 h4;simp only[O2,NP]at e0 e1 e4;subst e0 e1 e4;exact⟨⟨k0,k1,s,m,k4⟩,VL.cons v0 (VL.cons v1 (VL.app v2 (VL.app v3 (VL.cons v4 .nil)))),q,l1,l2,l3,l4,l5,l6⟩
structure ModuAt(P:Program)(t:TypeId):Prop where
 ex:∃(f0 f1 f2 f3 f4:Field)(e1 e2 e3:TypeId),P.underlying t=some (.struct #[f0,f1,f2,f3,f4])/\P.cellsOf t=5/\(f0.offset=0/\f1.offset=1/\f2.offset=2/\f3.offset=3/\f4.offset=4)/\
  (P.cellsOf f0.type=1/\P.cellsOf f1.type=1/\P.cellsOf f2.type=1/\P.cellsOf f3.type=1/\P.cellsOf f4.type=1)/\P.underlying f0.type=some .string/\P.underlying f1.type=some (.slice e1)/\P.underlying f2.type=some (.slice e2)/\
  P.underlying f3.type=some (.slice e3)/\P.underlying f4.type=some (.int .i64)/\ImpAt P e1/\DclAt P e2/\P.underlying e3=some .string/\P.cellsOf e3=1
theorem Ji{N M:Nat}{g:TypeId->DataW H->Prop}(hb:GoodR P N M g){t:TypeId}(hs:ModuAt P t)(fuel:Nat)(cs:List Value)(x:DataW H×List MemPlace)(h:DataW.trod enc P w base (fun _=>true) held fuel t cs=some x)(hg:g t x.1) :
  ∃s:Modu,VL (Om0 w) (cells (.st .modu) s) cs/\∀d∈s.decls,Pd.allT (gU N M) d.term=true/\tJ N d:=by
 obtain⟨f0,f1,f2,f3,f4,e1,e2,e3,ht,hc,⟨o0,o1,o2,o3,o4⟩,⟨c0,c1,c2,c3,c4⟩,u0,u1,u2,u3,u4,hi,hd,us,cs3⟩:=hs;obtain⟨n,hn,hl,hf⟩:=oD hb ht h hg;rw[hc]at hl;obtain⟨y0,h0,_⟩:=hf 0 f0 rfl;obtain⟨y1,h1,_⟩:=hf 1 f1 rfl;obtain⟨y2,h2,b2⟩:=hf 2 f2 rfl;obtain⟨y3,h3,_⟩:=hf 3 f3 rfl;obtain⟨y4,h4,_⟩:=hf 4 f4 rfl;have w1:P.cellsOf e1=ab (.st .imp):=by obtain⟨_,_,_,_,_,_,hc,_⟩:=hi;rw[hc];rfl
 have w2:P.cellsOf e2=ab (.st .decl):=by obtain⟨_,_,_,_,_,_,hc,_⟩:=hd;rw[hc];rfl
 match cs,hl with
 |[a0,a1,a2,a3,a4],_=>rw[o0,c0]at h0;rw[o1,c1]at h1;rw[o2,c2]at h2;rw[o3,c3]at h3;rw[o4,c4]at h4;simp only[Ot,Oe,NW,OI]at h0 h1 h2 h3 h4;obtain⟨k0,v',e0,v0⟩:=mZ u0 h0;obtain⟨li,x1,g1,v1⟩:=nI (τ:=.st .imp) u1 w1 (by decide) h1 (fun n ds y _ hy=>MH hi n ds y hy);obtain⟨ld,x2,g2,v2,_,q⟩:=xp (τ:=.st .decl) (Q:=fun d:Dcl=>Pd.allT (gU N M) d.term=true/\tJ N d) hb u2 w2 (by decide) h2 b2 (fun n ds y _ hy hq=>MI hb hd n ds y hy hq);obtain⟨le,x3,g3,v3⟩:=nI (τ:=.str) u3 cs3 (by decide) h3 (fun n ds y _ hy=>by obtain⟨s,hv,e,hs⟩:=mZ us hy;subst e;exact⟨s,VL.cons hs .nil⟩);obtain⟨k4,g4,v4⟩:=kL u4 h4;simp only[O2,NP]at e0 g1 g2 g3 g4;subst e0 g1 g2 g3 g4;exact⟨⟨k0,li,ld,le,k4⟩,VL.cons v0 (VL.cons v1 (VL.cons v2 (VL.cons v3 (VL.cons v4 .nil)))),q⟩
end Go.AL
end
section
namespace Go.AL
open Go Go.Proofs
section
variable {H:Type} {enc:TypeId×Value->H} {P:Program} {w:World} {base:Nat} {held:Bool} [Tabs]
theorem tK{N M:Nat}{g:TypeId->DataW H->Prop}(hb:GoodR P N M g){t:TypeId}(hs:ModuAt P t)(hw:ky P t){fuel:Nat}{cs:List Value}{x:DataW H×List MemPlace}{s:Modu}(h:DataW.trod enc P w base (fun _=>true) held fuel t cs=some x)(hg:g t x.1)
 (hv:VL (Om0 w) (cells (.st .modu) s) cs):s.imports.length<=N:=by
 obtain⟨f0,f1,f2,f3,f4,e1,e2,e3,ht,hc,⟨o0,o1,o2,o3,o4⟩,⟨c0,c1,c2,c3,c4⟩,u0,u1,u2,u3,u4,hi,hd,us,cs3⟩:=hs;exact dZ (i:=1) (f:=f1) (τ:=.st .imp) hb ht rfl c1 u1 (hw _ 1 f1 _ ht rfl u1) h hg hv (by rw[o1];rfl)
theorem Db{N M:Nat}{g:TypeId->DataW H->Prop}(hb:GoodR P N M g){t:TypeId}(hs:ModuAt P t)(hw:ky P t){r:Reach}{b0:Nat}{v:Value}{d:DataW H}{ps:List MemPlace}(hv:Value.okWide P w r b0 t v)(h:DataW.Trod enc P w base (fun _=>true) held t v d ps)(hg:g t d) :
  ∃s:Modu,V (Om0 w) (.st .modu s) v/\(∀d∈s.decls,Pd.allT (gU N M) d.term=true/\tJ N d)/\s.imports.length<=N:=by
 obtain⟨fu,h⟩:=h;obtain⟨s,hs',hq⟩:=Ji hb hs _ _ _ h hg;refine⟨s,.st .modu s v ?_,hq,tK hb hs hw h hg hs'⟩;have hl:=hs'.1;have hc:(cells (.st .modu) s).length=5:=rfl;rw[hc]at hl
 cases v with|agg vs=>have:=V.of_agg hs';simpa[Value.cells]using this|_=>simp[Value.cells]at hl
end
end Go.AL
end
section
namespace Go.AL
open Go Go.Proofs
section
variable {H:Type} {enc:TypeId×Value->H} {P:Program} {w:World} {base:Nat} {held:Bool} [Tabs]
theorem KR{N M:Nat}{g:TypeId->DataW H->Prop}(hb:GoodR P N M g){t e:TypeId}(ht:P.underlying t=some (.slice e))(hs:ModuAt P e)(hw:ky P e){r:Reach}{b0:Nat}{v:Value}{d:DataW H}{ps:List MemPlace}(hv:Value.okWide P w r b0 t v)
 (h:DataW.Trod enc P w base (fun _=>true) held t v d ps)(hg:g t d):∃l:List Modu,V (Om0 w) (.lst (.st .modu) l none) v/\∀m∈l,(∀d∈m.decls,Pd.allT (gU N M) d.term=true/\tJ N d)/\m.imports.length<=N:=by
 obtain⟨fu,h⟩:=h
 obtain⟨l,u,e',hl,_,hq⟩:=Jg (τ:=.st .modu) (Q:=fun m:Modu=>(∀d∈m.decls,Pd.allT (gU N M) d.term=true/\tJ N d)/\m.imports.length<=N) hb ht (by obtain⟨_,_,_,_,_,_,_,_,_,hc,_⟩:=hs;rw[hc];rfl) h hg (fun n ds y _ hy hq=>by
  obtain⟨s,hs',q⟩:=Ji hb hs _ _ _ hy hq;exact⟨s,hs',q,tK hb hs hw hy hq hs'⟩) (Jc ht hv)
 rw[KN ht hv]at e';simp only[O2,NP]at e';subst e';exact⟨l,hl,hq⟩
end
end Go.AL
end
section
namespace Go.Proofs.YtalkpiobgooadaaGreatDoor.Join
open Go.AL Go.AL.Seat Go.Pd Go.ChangeShapes Go.WideShapes Go.RowKit Go.Lib Go.Shelf
set_option maxRecDepth 1000000
theorem Ed:ShapeAt Tryz.prog 48:=⟨_,_,_,_,_,9,Tryz.underlying48,by kernel_rfl,⟨rfl,rfl,rfl,rfl,rfl⟩,⟨by kernel_rfl,by kernel_rfl,by kernel_rfl,by kernel_rfl,by kernel_rfl⟩,by kernel_rfl,by kernel_rfl,by kernel_rfl,by kernel_rfl,by kernel_rfl,by kernel_rfl,by kernel_rfl⟩
def L5(P:Program)(t:TypeId):Bool:=match P.underlying t with
 |some (.struct fs)=>fs.toList.all fun f=>match P.underlying f.type with
  |some (.slice e)=>decide (16<=P.bytesOf e)
  |_=>true
 |_=>true
theorem Md:TermAt Tryz.prog 51:=⟨_,_,_,_,_,_,_,_,_,9,48,Tryz.underlying51,by kernel_rfl,⟨rfl,rfl,rfl,rfl,rfl,rfl,rfl,rfl,rfl⟩,⟨by kernel_rfl,by kernel_rfl,by kernel_rfl,by kernel_rfl,by kernel_rfl,by kernel_rfl,by kernel_rfl,by kernel_rfl,by kernel_rfl⟩,
 ⟨by kernel_rfl,by kernel_rfl,by kernel_rfl,by kernel_rfl,by kernel_rfl,by kernel_rfl,by kernel_rfl,by kernel_rfl,by kernel_rfl⟩,⟨by kernel_rfl,by kernel_rfl,by kernel_rfl⟩,Ed⟩
theorem tL{P:Program}{t:TypeId}(h:L5 P t=true):ky P t:=by intro fs i f e h1 h2 h3;unfold L5 at h;rw[h1]at h;have:=N6.1 h f (Nf (by rw[N7];exact h2));simp only[h3]at this;exact Xo this
theorem MJ:Tryz.prog.readableRec 38=true:=by kernel_rfl
theorem tM:∀(n:Nat)(s:Trm),szT s<=n->allT (gU 1048576 1048576) s=true->bR s=true/\eI s=true
 |0,s,h,_=>by have:=kf s;omega
 |n+1,s,h,ha=>by
  rw[allT_eq,MR,allTL_all,N6]at ha;have hb:=ha.1;unfold gU at hb;rw[MR,MV,MV]at hb;have hp:∀x∈s.parts,bR x=true/\eI x=true:=fun x hx=>by have h1:=ml hx;have h2:=nA s;exact tM n x (by omega) (ha.2 x hx)
  unfold bR eI at hp⊢;rw[allT_eq,allT_eq,MR,MR,allTL_all,allTL_all,N6,N6];refine⟨⟨Xd (by omega),fun x hx=>(hp x hx).1⟩,?_,fun x hx=>(hp x hx).2⟩;rw[Xd (show s.name.length<=2000000 by omega),Xd (show s.names.length<=2000000 by omega)];rfl
theorem qm{d:Dcl}(h:allT (gU 1048576 1048576) d.term=true/\tJ 1048576 d):aW d=true:=by obtain⟨h1,h2⟩:=tM _ _ (N8 _) h.1;obtain⟨a,b,c,e,f,k⟩:=h.2;exact nE.2 ⟨⟨h2,h1⟩,z8.2 ⟨by omega,by omega,by omega,by omega,by omega,by omega⟩⟩
theorem Jj:VersAt Tryz.prog 40:=⟨_,_,_,_,Tryz.underlying40,by kernel_rfl,⟨rfl,rfl,rfl,rfl⟩,⟨by kernel_rfl,by kernel_rfl,by kernel_rfl,by kernel_rfl⟩,by kernel_rfl,by kernel_rfl,by kernel_rfl,by kernel_rfl⟩
theorem MK:BndAt Tryz.prog 56:=⟨_,_,Tryz.underlying56,by kernel_rfl,⟨rfl,rfl⟩,⟨by kernel_rfl,by kernel_rfl⟩,by kernel_rfl,Jj⟩
theorem ML:ImpAt Tryz.prog 43:=⟨_,_,_,_,56,Tryz.underlying43,by kernel_rfl,⟨rfl,rfl,rfl,rfl⟩,⟨by kernel_rfl,by kernel_rfl,by kernel_rfl,by kernel_rfl⟩,by kernel_rfl,Jj,by kernel_rfl,by kernel_rfl,MK⟩
theorem MM:DclAt Tryz.prog 53:=⟨_,_,_,_,_,Tryz.underlying53,by kernel_rfl,⟨rfl,rfl,rfl,rfl,rfl⟩,⟨by kernel_rfl,by kernel_rfl,by kernel_rfl,by kernel_rfl,by kernel_rfl⟩,by kernel_rfl,by kernel_rfl,⟨Ed,tL (by kernel_rfl)⟩,⟨Md,tL (by kernel_rfl)⟩,by kernel_rfl⟩
theorem Jk:ModuAt Tryz.prog 38:=⟨_,_,_,_,_,43,53,9,Tryz.underlying38,by kernel_rfl,⟨rfl,rfl,rfl,rfl,rfl⟩,⟨by kernel_rfl,by kernel_rfl,by kernel_rfl,by kernel_rfl,by kernel_rfl⟩,by kernel_rfl,by kernel_rfl,by kernel_rfl,by kernel_rfl,by kernel_rfl,ML,MM,by kernel_rfl,by kernel_rfl⟩
theorem Av:ky Tryz.prog 38:=tL (by kernel_rfl)
theorem MN:Tryz.prog.underlying 22=some (.slice 38):=by kernel_rfl
theorem Me:Tryz.prog.readableRec 22=true:=by kernel_rfl
variable {H:Type}
theorem Jl(d:DataW H):1<=Rows.uptoBulk d:=by
 cases d with
 |lit l=>cases l<;>(unfold Rows.uptoBulk;omega)
 |_=>unfold Rows.uptoBulk;omega
theorem Aw:∀l:List (DataW H),l.length<=Rows.uptoBulkAll l
 |[]=>N2 _
 |d::r=>by have:=Aw r;have:=Jl d;unfold Rows.uptoBulkAll;rw[Ni];omega
theorem oE{d:DataW H}:∀{l:List (DataW H)},d∈l->Rows.uptoBulk d<=Rows.uptoBulkAll l
 |x::r,h=>by
  unfold Rows.uptoBulkAll;rcases N9.1 h with rfl|h
  ·omega
  ·have:=oE h;omega
theorem vw(P:Program):GoodR (H:=H) P 1048576 1048576 (fun _ d=>Rows.uptoBulk d<=1048576) where
 str t s ht h:=by unfold Rows.uptoBulk at h;omega
 len t e es sp ht h h16:=by have:=Aw es;unfold Rows.uptoBulk at h;omega
 el t e es sp ht h x hx:=by have:=oE hx;unfold Rows.uptoBulk at h;omega
 part t fs ps ht h i f p hf hp:=by have:=oE (Nf hp);unfold Rows.uptoBulk at h;omega
theorem Ax{ds:List (DataW H)}(h:Rows.uptoSmall H ds=true){d:DataW H}(hd:d∈ds):Rows.uptoBulk d<=1048576:=by have:=oE hd;have:=Xo h;omega
end Go.Proofs.YtalkpiobgooadaaGreatDoor.Join
end
noncomputable section
namespace Go.AL.Seat
open Go Go.AL Go.Proofs Go.Pd
variable [Tabs] [SeatLaid] [SeatPow]
theorem Dc{l:List Modu}{m:Modu}{k:Int}(hl:Wf (.lst (.st .modu)) l)(hm:Wf (.st .modu) m)(hk:Wf (.int .i64) k)(hs:∀x∈m::l,x.decls.all aW=true)(hi:∀x∈m::l,x.imports.length<=1048576) :
  an Tryz.prog 5 [.lst (.st .modu) l none,.st .modu m,.int .i64 k] [] (.ret (.bool true)):=
 pH l m k hl hm hk hs hi (J1 dF 2001 (J0 dF 2001 (Gb dF 2001 (pG dF) (tH 2001 (tG 2001))))) As
end Go.AL.Seat
end
section
namespace Go.Proofs.YtalkpiobgooadaaGreatDoor.JEvalMore
open Go.AL Go.AL.Seat Go.Pd Go.ChangeShapes Go.WideShapes Go.RowKit Go.Proofs.YtalkpiobgooadaaGreatDoor.Join
set_option maxRecDepth 1000000
theorem par:Tryz.f5.params=#[22,38,3]:=by kernel_rfl
theorem res:Tryz.f5.resultTypes=#[4]:=by kernel_rfl
theorem spec{H:Type}(ds:List (DataW H))(hd:ds.length=3):Rows.evalMoreSpec.fn H ds={results:=[.lit (.bool true)],args:=ds}:=by
 match ds,hd with
 |[d0,d1,d2],_=>rfl
theorem Jm(H:Type)(enc:TypeId×Value->H)(W:World)(base:Nat)(args:Array Value)(ds gs:List (DataW H))(before:List MemPlace)
 (hval:∀(j:Nat) t v,Tryz.f5.params[j]?=some t->args[j]?=some v->Value.okWide Tryz.prog W .any base t v)
 (hW:DataW.Whole enc Tryz.prog Tryz.f5.params.toList Rows.evalMoreSpec.vars false W args.toList ds gs before)(hku:Rows.uptoSmall H (ds++gs)=true)(hL:laidMet Tryz.prog laid W)(hsh:W.ShapedOpen Tryz.prog) :
  Calls Tryz.prog 5 args W fun e W'=>∃v,e=.returned v/\Rows.evalMoreSpec.post enc Tryz.prog Tryz.f5 false true false false W args v W':=by
 letI:Tabs:=lR W
 haveI:SeatLaid:=Je hL hsh
 haveI:SeatPow:=KQ hL
 have hW':=hW;obtain⟨p,q,hA,hV,_,_,_⟩:=hW;rw[par]at hA hval;obtain⟨v0,vs0,d0,ds0,p0,q0,hargs0,rfl,rfl,h0,r0⟩:=trodAll_cons hA;obtain⟨v1,vs1,d1,ds1,p1,q1,hargs1,rfl,rfl,h1,r1⟩:=trodAll_cons r0;obtain⟨v2,vs2,d2,ds2,p2,q2,hargs2,rfl,rfl,h2,r2⟩:=trodAll_cons r1;obtain⟨rfl,rfl,rfl⟩:=trodAll_nil r2;subst hargs1;subst hargs2;obtain rfl:args=#[v0,v1,v2]:=by have:=Oz List.toArray hargs0;simpa using this
 obtain⟨x0,hx0,hq0⟩:=KR (vw Tryz.prog) MN Jk Av (hval 0 22 v0 rfl rfl) h0 (Ax hku (by simp));obtain⟨x1,hx1,hq1⟩:=Db (vw Tryz.prog) Jk Av (hval 1 38 v1 rfl rfl) h1 (Ax hku (by simp));obtain⟨x2,hx2⟩:=Jd undI (hval 2 3 v2 rfl rfl) h2;refine(Gf (Dc ⟨_,_,hx0⟩ ⟨_,_,hx1⟩ ⟨_,_,hx2⟩ (List.forall_mem_cons.2 ⟨N6.2 fun d hd=>qm (hq1.1 d hd),fun m hm=>N6.2 fun d hd=>qm ((hq0 m hm).1 d hd)⟩) (List.forall_mem_cons.2 ⟨hq1.2,fun m hm=>(hq0 m hm).2⟩)) (fun b o v h=>h.2) (fun b x h=>h.2) (VL.cons hx0 (VL.cons hx1 (VL.cons hx2 .nil)))).mono fun e W' ⟨he,hb⟩=>?_;subst he;refine⟨_,rfl,Jb (tb:=4) KO (fun t ht=>?_) rfl (fun ds hd=>spec ds ?_) res undB hW' hb⟩
 ·rw[par]at ht;have ht:t∈[22,38,3]:=ht;simp only[N9,OG,Qs]at ht;rcases ht with rfl|rfl|rfl
  ·exact⟨Me,Ps (by decide) dI⟩
  ·exact⟨MJ,Ps (by decide) dI⟩
  ·exact⟨MB,Ps (by decide) dI⟩
 ·rw[par]at hd;exact hd
theorem reads(os:Os){H:Type}(enc:TypeId×Value->H):(DataW.whole enc Tryz.prog ((mA os).forCall (fun _ _=>0) ⟨#[],#[.slice none 0 0,.agg #[.string ⟨#[]⟩,.slice none 0 0,.slice none 0 0,.slice none 0 0,.int .i64 0],.int .i64 0],[]⟩).memory Tryz.f5.params.toList Rows.evalMoreSpec.vars false [Value.slice none 0 0,Value.agg #[.string ⟨#[]⟩,.slice none 0 0,.slice none 0 0,.slice none 0 0,.int .i64 0],Value.int .i64 0] 8).map (fun x=>(x.1,x.2.1))=some ([.nil,.agg [.lit (.string []),.nil,.nil,.nil,.lit (.int .i64 0)],.lit (.int .i64 0)],[]):=by kernel_rfl
theorem Mf(os:Os)(started:os.Started)(H:Type)(enc:TypeId×Value->H)(F:Stop.Interp) :
  ReturnsInHanded {} Tryz.checked os 5 .any ((Rows.OpenSpec.upto Rows.evalMoreSpec).preRow enc Tryz.prog Tryz.f5 Rows.evalMoreUptoRow.domain false Rows.evalMoreUptoRow.laid) (((Rows.OpenSpec.upto Rows.evalMoreSpec).at F).post enc Tryz.prog Tryz.f5 false true false false):=by
 obtain⟨⟨y1,y2,y3⟩,hx,hy⟩:=N3.1 (reads os enc);simp only[Pe]at hy;obtain⟨rfl,rfl⟩:=hy
 refine returnsInHanded_of_row (C:=Tryz.checked) (s:=Rows.OpenSpec.upto Rows.evalMoreSpec) own started (by kernel_rfl) Tryz.func5
  (witness_row_atRef (enc:=enc) (C:=Tryz.checked) false (mA os) #[.slice none 0 0,.agg #[.string ⟨#[]⟩,.slice none 0 0,.slice none 0 0,.slice none 0 0,.int .i64 0],.int .i64 0] rfl (by kernel_rfl) (by kernel_rfl) (by kernel_rfl)
   (OpenSpec.preRow_of_cond 8 hx (by kernel_rfl) (fun k hk=>by cases hk;kernel_rfl) (by kernel_rfl) (Jf os _))) ?_
 intro W base args ds gs before hval hW _ hku _ hL hsh _;exact Jm H enc W base args ds gs before hval hW (hku _ rfl) hL hsh
theorem c1:(Rows.evalMoreUptoRow.inPlace ==Tryz.prog.inPlace 5)=true:=by kernel_rfl
theorem c2:(Rows.evalMoreUptoRow.unfollowed ==Tryz.prog.unfollowed 5)=true:=by kernel_rfl
theorem c3:(Rows.evalMoreUptoRow.recurses ==Tryz.prog.recurses 5)=true:=by kernel_rfl
theorem c4:(Rows.evalMoreUptoRow.named ==Tryz.prog.varsNamed 5)=true:=by kernel_rfl
theorem Mg:joinedFacts Tryz.prog 5 Tryz.f5 (Rows.OpenSpec.upto Rows.evalMoreSpec).bare Rows.evalMoreUptoRow=true:=by unfold joinedFacts;rw[c1,c2,c3,c4];kernel_rfl
theorem said:Rows.EvalMoreUptoSaid:=
 OpenClaim.holds_of_cond 5 Tryz.f5 rfl rfl rfl rfl rfl rfl rfl ⟨rfl,rfl,rfl,rfl,rfl⟩ rfl rfl rfl rfl rfl (by kernel_rfl) Tryz.func5 Mg
  (Xo (by kernel_rfl)) (by unfold Func.isWrapper;first|(rw[MT (by decide+kernel)];kernel_rfl)|(rw[MS (by decide+kernel)];exact⟨rfl,rfl⟩))
  (fun os started H enc _ F=>by rw[OpenClaim.pre_eq_preRow];exact Mf os started H enc F)
theorem eD(f:FuncId)(fn:Func)(hf:Tryz.pinned.checked.prog.funcNamed "pandect/pandectlaw30.EvalMore"=some f)(hfn:Tryz.pinned.checked.prog.funcs[f]?=some fn) :
  true=Tryz.pinned.checked.prog.looks []/\∀(j:Nat) t,fn.params[j]?=some t->Tryz.pinned.checked.prog.wantsStandIn t=false:=by
 obtain rfl:f=5:=Nk ((show Tryz.prog.funcNamed "pandect/pandectlaw30.EvalMore"=some 5 by kernel_rfl).symm.trans hf) |>.symm;obtain rfl:fn=Tryz.f5:=(Nk (Tryz.func5.symm.trans hfn)).symm;refine ⟨by kernel_rfl,fun j t ht=>?_⟩;rw [par] at ht;have ht:=Array.mem_of_getElem? ht;simp only [List.mem_toArray,N9,OG,Qs] at ht;rcases ht with rfl | rfl | rfl
 ·exact(show Tryz.prog.wantsStandIn 22=false by kernel_rfl)
 ·exact(show Tryz.prog.wantsStandIn 38=false by kernel_rfl)
 ·exact(show Tryz.prog.wantsStandIn 3=false by kernel_rfl)
theorem card:Rows.EvalMoreUptoCardSaid:=
 Claim7.holds_tied_plain_at .later [] _ _ _ _ said (fun _ h=>by cases h) (by kernel_rfl) (fun _ h=>by cases h) evalMoreUpto_row_tie rfl ⟨rfl,rfl⟩ (by kernel_rfl) rfl eD (by kernel_rfl)
end Go.Proofs.YtalkpiobgooadaaGreatDoor.JEvalMore
end
