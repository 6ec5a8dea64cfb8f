/- What the functions' conditions say, proved. Plain facts. The layer: Go code as conditions, and that they are sound. No condition. -/
import Derived.Test.YtlhofbjllomgiaaGreatDoorT06
import Derived.Below
import Derived.Deep.RegionHeld3
import Derived.Handy
import Derived.LoopIn
import Derived.LoopNIn
import Derived.Maps.RangeRun
import Derived.OrdersIn
import Derived.OwnWalkIn
import Derived.RangeFuncIn
import Derived.RangeFuncLeaves
import Derived.RangeFuncSeq
import Derived.Shelf.SlIter.Collect
import Derived.Shelf.SlSortCmp.NoneTotal
import Derived.Shelf.SlSortCmp.QuietGrown
import Derived.Shelf.SlSortCmp.WholeK
import Derived.Sort.Walk0
import Derived.TacticsInMore
import Derived.Test.YtlhofbjllomgiaaGreatDoorProg
import Derived.WalkKit
set_option linter.all false
set_option maxRecDepth 100000
section
open Go Go.AL Go.Pd
namespace Go.AL.Seat
theorem yu(c:Cst)(d:Dcl)(r:DcC)(hd:Wf (.st .decl) d)(ho:((d.kind=1∨d.kind=2∨d.kind=3)/\(d.kind=3->cm d.term=true)/\c.e.types.length<=1000000/\c.e.values.length<=1000000/\c.e.own.length<=1000000))(hr:kY d c=r) :
  let A:=(1000000:Nat);let B:=List.length c.e.values<=A;let C:=fH d.term c.e;let D:=(0:Int);let E:=True;let F:=C.2.err=r.f.err;let G:=C.2.pos=r.f.pos;let H:=c.e.self=r.c.e.self;let I:=c.e.types=r.c.e.types;let J:=c.e.values=r.c.e.values;let K:=c.e.own=r.c.e.own;let L:=List.length c.e.values=List.length r.c.e.values;let M:=List.length c.e.own=List.length r.c.e.own;let N:=H/\I/\J/\K/\L/\M/\c.m=r.c.m/\E;let O:=List.length c.e.values=List.length c.e.values/\List.length c.e.own=List.length c.e.own;let P:=aO d.shape c.e.types;let Q:=c.e.types++[fT d.name (if d.kind=(2:Int)then ec c.e.self d.name else P.1)]=r.c.e.types;if decide (d.kind=(3:Int))=true then(cm d.term=true/\B)/\if(!decide (C.2.err=D))=true then E/\F/\G/\N else(O/\B)/\E/\F/\G/\H/\I/\c.e.values++[AL.Bndg.mk ([]) (d.name) (C.1)]=r.c.e.values/\K/\List.length c.e.values+(1:Nat)=List.length r.c.e.values/\M/\bO c.m d.name {kind:=d.kind,name:=d.name,shape:=AL.Shape.mk (C.1.kind) (C.1.pkg) (C.1.name) (C.1.names) (C.1.parts):AL.Item}=r.c.m/\E else if(!decide (P.2=D))=true then E/\P.2=r.f.err/\d.pos=r.f.pos/\N else(List.length c.e.types<=A/\(d.kind=(1:Int)∨d.kind=(2:Int))/\P.2=D)/\if decide (d.kind=(2:Int))=true then(O/\List.length c.e.own<=A)/\E/\D=r.f.err/\D=r.f.pos/\H/\Q/\J/\c.e.own++[AL.Bndg.mk ([]) (d.name) (P.1)]=r.c.e.own/\L/\List.length c.e.own+(1:Nat)=List.length r.c.e.own/\bO c.m d.name {kind:=d.kind,name:=d.name,shape:=AL.Shape.mk (D) ([]) ([]) ([]) ([]):AL.Item}=r.c.m/\E else E/\D=r.f.err/\D=r.f.pos/\H/\Q/\J/\K/\L/\M/\bO c.m d.name {kind:=d.kind,name:=d.name,shape:=AL.Shape.mk (P.1.kind) (P.1.pkg) (P.1.name) (P.1.names) (P.1.parts):AL.Item}=r.c.m/\E:=by
 conv=>zeta
 obtain⟨o1,o2,o3,o4,o5⟩:=ho;subst hr;have es:∀x:AL.Shape,AL.Shape.mk x.kind x.pkg x.name x.names x.parts=x:=fun x=>by cases x;rfl
 simp only[es,Pn,OM,OD];unfold kY;apply aa<;>intro h
 ·have h:=Xo h;rw[NY h];unfold Jw;refine⟨⟨o2 h,o4⟩,aa (fun g=>?_) (fun g=>?_)⟩
  ·have g:¬(fH d.term c.e).2.err=0:=by simpa using g
   rw[NU g];exact(by repeat' (first|exact trivial|rfl|apply And.intro))
  ·have g:(fH d.term c.e).2.err=0:=by simpa using g
   rw[NY g];refine⟨o4,?_⟩;rw[h];simp only[cd,Oc,Ov];exact(by repeat' (first|exact trivial|rfl|apply And.intro))
 ·have h:¬d.kind=3:=fun e=>h (Xd e);rw[NU h];unfold Jx;have o1:d.kind=1∨d.kind=2:=by omega
  apply aa<;>intro g
  ·have g:¬(aO d.shape c.e.types).2=0:=by simpa using g
   rw[NU g];exact(by repeat' (first|exact trivial|rfl|apply And.intro))
  ·have g:(aO d.shape c.e.types).2=0:=by simpa using g
   rw[NY g];refine⟨⟨o3,o1,g⟩,aa (fun k=>?_) (fun k=>?_)⟩
   ·have k:=Xo k;rw[NY k];simp only[NY k];refine⟨o5,?_⟩;rw[k];simp only[Oc,Ov];exact(by repeat' (first|exact trivial|rfl|apply And.intro))
   ·have k:¬d.kind=2:=fun e=>k (Xd e);rw[NU k];simp only[NU k];exact(by repeat' (first|exact trivial|rfl|apply And.intro))
theorem Ka(l:List AL.Item)  :
  True/\l=l/\True:=by
 repeat' (first|exact trivial|rfl|apply And.intro)
end Go.AL.Seat
end
section
open Go Go.AL Go.Proofs Go.Shelf Go.Pd
namespace Go.AL.Seat
variable [Tabs]
def nn:Nat->Bool:=fun _=>false
def cf(k:Nat->Bool)(l:Nat->List (Option Nat))(p r m:Nat->Bool)(s:Nat->List AV->List (Nat×SObj)->Option Ans):Cfg:=⟨tbl,s,k,l,p,r,m⟩
def a0:An:=⟨[],[],[]⟩
theorem g1(k:Nat->Bool)(l:Nat->List (Option Nat))(p r m:Nat->Bool){s:Nat->List AV->List (Nat×SObj)->Option Ans}(hS:bH Tryz.prog s)(a:An){f:Nat}{fn:Func}(hf:Tryz.prog.funcs[f]?=some fn)
 {args:List AV}{S:List (Nat×SObj)}{A:Ans}{Q:Prop}(q:Q)(h:fwp (cf k l p r m s) a fn args S A=Q:=by kernel_rfl):ak Tryz.prog f args S A:=IC (C:=cf k l p r m s) mixed uh hS hf q h
theorem g0{s:Nat->List AV->List (Nat×SObj)->Option Ans}(hS:bH Tryz.prog s)(a:An){f:Nat}{fn:Func}(hf:Tryz.prog.funcs[f]?=some fn)
 {args:List AV}{S:List (Nat×SObj)}{A:Ans}{Q:Prop}(q:Q)(h:fwp (cf nn (fun _=>[]) nn nn nn s) a fn args S A=Q:=by kernel_rfl):ak Tryz.prog f args S A:=IC (C:=cf nn (fun _=>[]) nn nn nn s) mixed uh hS hf q h
theorem sc{f:Nat}{g:Pat}{l:List (Nat×Pat)}(h:ah Tryz.prog f g)(hl:bH Tryz.prog (gE l)):bH Tryz.prog (gE ((f,g)::l)):=tv h hl
theorem sn:bH Tryz.prog (gE []):=wj
theorem ee{f:Nat}{fn:Func}(h:Tryz.prog.funcs[f]?=some fn)(e:(fn.body.isNone || (fn.name == "runtime.NumGoroutine"))=false:=by kernel_rfl):Enters Tryz.prog f:=Enters.mk' h e
variable [SeatLaid]
theorem q8:ah Tryz.prog 84 (p1 (.int .u8) fun c=>.ret (.bool (dH c))):=
 bz (ee Tryz.func84) fun c _ _=>g0 sn a0 Tryz.func84 (JH c)
theorem q9:ah Tryz.prog 92 (p1 (.int .u8) fun c=>.ret (.bool (dP c))):=
 bz (ee Tryz.func92) fun c _ _=>g0 sn a0 Tryz.func92 (JI c)
theorem Hp:ah Tryz.prog 159 (p1 (.int .u8) fun c=>.ret (.bool (iH c))):=
 bz (ee Tryz.func159) fun c _ _=>g0 sn a0 Tryz.func159 (JJ c)
theorem Br:ah Tryz.prog 135 (p1 (.int .u8) fun c=>.ret (.bool (iB c))):=
 bz (ee Tryz.func135) fun c _ _=>g0 (sc q8 (sc q9 (sc Hp sn))) a0 Tryz.func135 (LH c)
theorem E1:ah Tryz.prog 83 (pf .str 84 fun s=>.ret (.bool (dI dH s))):=
 nd (ee Tryz.func83) fun s hs _=>g0 (sc q8 (sc q9 (sc Br sn))) ⟨[(4,fun S0=>⟨Nat,fun k=>k<=s.length/\dI dH s=(s.drop k).all fun c=>iB (bI c),fun k=>[(22,.int .i64 k)],fun _=>[],fun k=>s.length-k⟩)],[],[]⟩ Tryz.func83 (GR s hs)
theorem E2:ah Tryz.prog 83 (pf .str 92 fun s=>.ret (.bool (dI dP s))):=
 nd (ee Tryz.func83) fun s hs _=>g0 (sc q8 (sc q9 (sc Br sn))) ⟨[(4,fun S0=>⟨Nat,fun k=>k<=s.length/\dI dP s=(s.drop k).all fun c=>iB (bI c),fun k=>[(22,.int .i64 k)],fun _=>[],fun k=>s.length-k⟩)],[],[]⟩ Tryz.func83 (GS s hs)
theorem Kb:ah Tryz.prog 85 (p1 .str fun s=>.ret (.bool (zS s))):=
 bz (ee Tryz.func85) fun s _ _=>g0 sn a0 Tryz.func85 (LI s)
theorem jm:ah Tryz.prog 47 (p1 .str fun s=>.ret (.bool (aX s))):=
 bz (ee Tryz.func47) fun s _ _=>g0 (sc E1 (sc Kb sn)) a0 Tryz.func47 (LJ s)
theorem kj:ah Tryz.prog 52 (p1 .str fun s=>.ret (.bool (eA s))):=
 bz (ee Tryz.func52) fun s _ _=>g0 (sc E2 sn) a0 Tryz.func52 (JK s)
theorem uw:ah Tryz.prog 214 (p2 (.lst .str) .str fun a v=>.ret (.int .i64 (cv a v 0))):=
 bT (ee Tryz.func214) fun a v ha _ _=>g0 sn ⟨[(2,fun S0=>⟨Nat,fun k=>k<=a.length/\cv a v 0=cv (a.drop k) v k,fun k=>[(8,.int .i64 k)],fun _=>[],fun k=>a.length-k⟩)],[],[]⟩ Tryz.func214 (GU a v ha)
theorem Hq:ah Tryz.prog 120 (p1 .str fun s=>.ret (.bool (nO s))):=
 bz (ee Tryz.func120) fun s _ _=>g0 sn a0 Tryz.func120 (JL s)
theorem nZ:ah Tryz.prog 94 (p1 (.lst .str) fun a=>⟨none,none,.fn 146 [.ptr 1 0],[(1,.box (.lst .str a none))]⟩):=
 bz (ee Tryz.func94) fun a _ _=>g0 sn a0 Tryz.func94 (GV a)
theorem Hr:ah Tryz.prog 119 (p1 (.st .shape) fun s=>⟨some (s.parts.length *16<=140737488355328),none,.bool (eF s),[]⟩):=
 bz (ee Tryz.func119) fun s hs ho=>g0 (sc jm (sc nZ (sc (nQ) (sc (lT) sn)))) ⟨[(4,fun S0=>⟨Nat,fun k=>k<=s.names.length/\s.names.length=s.parts.length/\eF s=(((s.names.drop k).all aX)&&decide s.names.Nodup),fun k=>[(16,.int .i64 k)],fun _=>[],fun k=>s.names.length-k⟩)],[],[]⟩ Tryz.func119 (JM s hs (ho _ rfl))
theorem Kc:ah Tryz.prog 66 (p1 (.st .shape) fun s=>⟨some (s.parts.length *16<=140737488355328),none,.bool (aV s),[]⟩):=
 bz (ee Tryz.func66) fun s hs ho=>g0 (sc Hr (sc kj (sc jm (sc Hq sn)))) a0 Tryz.func66 (LK s hs (ho _ rfl))
theorem uz:Enters Tryz.prog 30:=ee Tryz.func30
theorem vu(n:Nat)(s:AL.Shape)(hs:Wf (.st .shape) s)(hn:sz s<=n+1)(hb:n<=1000000)(hA:ah Tryz.prog 30 (pf (.st .shape) 66 fun s=>⟨some (sz s<=n),none,.bool (allS aV s),[]⟩)):ak Tryz.prog 30 [.st .shape s,.fn 66 []] [] (.ret (.bool (allS aV s))):=
 g0 (sc Kc (sc (hA) sn)) ⟨[(4,fun S0=>⟨Nat,fun k=>k<=s.parts.length/\allS aV s=allL aV (s.parts.drop k),fun k=>[(14,.int .i64 k)],fun _=>[],fun k=>s.parts.length-k⟩)],[],[]⟩ Tryz.func30 (DJ n s hs hn hb)
theorem Bt:∀n:Nat,n<=1000000->ah Tryz.prog 30 (pf (.st .shape) 66 fun s=>⟨some (sz s<=n),none,.bool (allS aV s),[]⟩):=by
 intro n
 induction n with
 |zero=>exact fun _=>nd uz fun a hs ho=>absurd (ho _ rfl) (by have:=fG a;omega)
 |succ n ih=>exact fun hb=>nd uz fun a hs ho=>vu n a hs (ho _ rfl) (by omega) (ih (by omega))
theorem wO:Enters Tryz.prog 150:=ee Tryz.func150
theorem yw(n:Nat)(s:AL.Shape)(hs:Wf (.st .shape) s)(hn:sz s<=n+1)(ho:allS fk s=true)(hb:n<=1000000)(hA:ah Tryz.prog 150 (p1 (.st .shape) fun s=>⟨some (sz s<=n/\allS fk s=true),none,.st .shape (sortedS s),[]⟩)):ak Tryz.prog 150 [.st .shape s] [] (.ret (.st .shape (sortedS s))):=
 g0 (sc (yq) (sc (hA) sn)) ⟨[(4,fun S0=>⟨Nat,fun k=>k<=s.parts.length,fun k=>[(21,.int .i64 k)],fun k=>[(18,.box (.row (.int .i64) (dr k++List.replicate (s.parts.length-k) 0)))],fun k=>s.parts.length-k⟩),(11,fun S0=>⟨Nat,fun k=>k<=s.parts.length,fun k=>[(38,.int .i64 k)],fun k=>[(3,.box (.agg [.int .i64 s.kind,.str s.pkg,.str s.name,.lst .str (if s.names=[]then[]else(bJ s|>.take k).map (dq s.names)) (some 701),.lst (.st .shape) ((bJ s|>.take k).map fun i=>(sortedL s.parts).getD i.toNat xW) (some 702)])),(18,.box (.row (.int .i64) (bJ s))),(701,.tail .str (if s.names=[]then[]else(bJ s|>.take k).map (dq s.names)).length),(702,.tail (.st .shape) k)],fun k=>s.parts.length-k⟩)],[],[]⟩ Tryz.func150 (GW n s hs hn ho hb)
theorem E3:∀n:Nat,n<=1000000->ah Tryz.prog 150 (p1 (.st .shape) fun s=>⟨some (sz s<=n/\allS fk s=true),none,.st .shape (sortedS s),[]⟩):=by
 intro n
 induction n with
 |zero=>exact fun _=>bz wO fun a hs ho=>absurd (ho _ rfl).1 (by have:=fG a;omega)
 |succ n ih=>exact fun hb=>bz wO fun a hs ho=>yw n a hs (ho _ rfl).1 (ho _ rfl).2 (by omega) (ih (by omega))
theorem Kd:ah Tryz.prog 118 (xX 191):=
 D4 (ee Tryz.func118) fun c hc=>g0 sn a0 Tryz.func118 (LL c hc)
theorem Ft:Enters Tryz.prog 117:=ee Tryz.func117
theorem E4(n:Nat)(s:AL.Shape)(l c:Int)(hs:Wf (.st .shape) s)(hn:sz s<=n+1)(hc:0<=c/\c<=400/\1<=l/\l<=c+1)(hA:ah Tryz.prog 117 (rI 191 118 n)):ak Tryz.prog 117 [.st .shape s,.int .i64 l,.fn 118 [.ptr 900 0]] [(900,.box (.int .i64 c))] (IH 191 s l c (sz s<=n+1)):=
 g0 (sc Kd (sc (hA) sn)) ⟨[(4,fun S0=>⟨Nat×Int,fun x=>x.1<=s.parts.length/\c+1+(szL (s.parts.take x.1):Int)<=400/\deepL (s.parts.drop x.1) (l+1) x.2=deepS s l,fun x=>[(7,.int .i64 x.2),(16,.int .i64 x.1)],fun x=>[(900,.box (.int .i64 (c+1+(szL (s.parts.take x.1):Int))))],fun x=>s.parts.length-x.1⟩)],[],[]⟩ Tryz.func117 (LM n s l c hs hn hc)
theorem Ke:∀n:Nat,ah Tryz.prog 117 (rI 191 118 n):=by
 intro n
 induction n with
 |zero=>exact tC Ft fun s l c hs hn hc=>absurd hn (by have:=fG s;omega)
 |succ n ih=>exact tC Ft fun s l c hs hn hc=>E4 n s l c hs hn hc ih
theorem Bu(s:AL.Shape)(hs:Wf (.st .shape) s) :ak Tryz.prog 65 [.st .shape s] [] (.ret (.tup [.int .i64 (if sz s<=400 then(sz s:Int)else 401),.int .i64 (if sz s<=400 then deepS s 1 else 0),.bool (decide (sz s<=400))])):=
 fwpR_sound (C:=⟨tbl,_,fun _=>false,fun _=>[],fun _=>false,fun _=>false,fun _=>false⟩) (ann:=⟨[],[],[]⟩) (annC:=⟨[],[],[]⟩) mixed uh (tv (Ke (sz s)) (wj)) Tryz.func65 Tryz.func116 (enters_of Tryz.func116 (by kernel_rfl) rfl) (@Eq.mpr _ _ (by kernel_rfl) (JN s hs))
theorem Hs:ah Tryz.prog 65 (p1 (.st .shape) fun s=>.ret (.tup [.int .i64 (if sz s<=400 then(sz s:Int)else 401),.int .i64 (if sz s<=400 then deepS s 1 else 0),.bool (decide (sz s<=400))])):=
 bz (ee Tryz.func65) fun s hs _=>Bu s hs
theorem gW:ah Tryz.prog 29 (p1 (.st .shape) fun s=>.ret (.int .i64 (aH s))):=
 bz (ee Tryz.func29) fun s _ _=>g0 (sc (Hs) (sc (Bt 400 (by decide)) sn)) a0 Tryz.func29 (JO s)
theorem mg:ah Tryz.prog 103 (p1 (.st .shape) fun s=>.ret (.st .shape (bN s))):=
 bz (ee Tryz.func103) fun s _ _=>g0 (sc gW (sc (E3 400 (by decide)) sn)) a0 Tryz.func103 (LN s)
theorem Fu:Enters Tryz.prog 19:=ee Tryz.func19
theorem E5(n:Nat)(s:AL.Shape)(m:Int)(hs:Wf (.st .shape) s)(ho:sz s<=n+1/\0<=m/\m<=1000000)(hA:ah Tryz.prog 19 (p2 (.st .shape) (.int .i64) fun s m=>⟨some (sz s<=n/\0<=m/\m<=1000000),none,.int .i64 (sizeF s m),[]⟩)):ak Tryz.prog 19 [.st .shape s,.int .i64 m] [] (.ret (.int .i64 (sizeF s m))):=
 g0 (sc (hA) sn) ⟨[(3,fun S0=>⟨Nat×Int,fun x=>x.1<=s.parts.length/\1<=x.2/\x.2<=m+1/\sizeL (s.parts.drop x.1) x.2 m=sizeF s m,fun x=>[(5,.int .i64 x.2),(6,.int .i64 x.1)],fun _=>[],fun x=>s.parts.length-x.1⟩)],[],[]⟩ Tryz.func19 (LO n s m hs ho)
theorem Bv:∀n:Nat,ah Tryz.prog 19 (p2 (.st .shape) (.int .i64) fun s m=>⟨some (sz s<=n/\0<=m/\m<=1000000),none,.int .i64 (sizeF s m),[]⟩):=by
 intro n
 induction n with
 |zero=>exact bT Fu fun a m _ _ ho=>absurd (ho _ rfl).1 (by have:=fG a;omega)
 |succ n ih=>exact bT Fu fun a m ha _ ho=>E5 n a m ha (ho _ rfl) ih
theorem wP:Enters Tryz.prog 28:=ee Tryz.func28
theorem yy(n:Nat)(a b:Shape)(ha:Wf (.st .shape) a)(hb:Wf (.st .shape) b)(hn:sz a<=n+1)(hA:ah Tryz.prog 28 (p2 (.st .shape) (.st .shape) fun a b=>⟨some (sz a<=n),none,.bool (eqS a b),[]⟩)):ak Tryz.prog 28 [.st .shape a,.st .shape b] [] (.ret (.bool (eqS a b))):=
 g0 (sc (hA) sn) ⟨[(4,fun S0=>⟨Nat,fun k=>k<=a.names.length/\a.names.length=b.names.length/\a.parts.length=b.parts.length/\eqS a b=(decide (a.names.drop k=b.names.drop k)&&eqL a.parts b.parts),fun k=>[(5,.int .i64 k)],fun _=>[],fun k=>a.names.length-k⟩),(9,fun S0=>⟨Nat,fun k=>k<=a.parts.length/\a.parts.length=b.parts.length/\eqS a b=eqL (a.parts.drop k) (b.parts.drop k),fun k=>[(6,.int .i64 k)],fun _=>[],fun k=>a.parts.length-k⟩)],[],[]⟩ Tryz.func28 (GX n a b ha hb hn)
theorem E6:∀n:Nat,ah Tryz.prog 28 (p2 (.st .shape) (.st .shape) fun a b=>⟨some (sz a<=n),none,.bool (eqS a b),[]⟩):=by
 intro n
 induction n with
 |zero=>exact bT wP fun a b _ _ ho=>absurd (ho _ rfl) (by have:=fG a;omega)
 |succ n ih=>exact bT wP fun a b ha hb ho=>yy n a b ha hb (ho _ rfl) ih
theorem wQ:Enters Tryz.prog 142:=ee Tryz.func142
theorem yz(n:Nat)(t:Trm)(m:Int)(hs:Wf (.st .term) t)(hz:szT t<=n+1)(h0:0<=m)(h1:m<=1000000)(hA:ah Tryz.prog 142 (p2 (.st .term) (.int .i64) fun t m=>⟨some (szT t<=n/\0<=m/\m<=1000000),none,.tup [.int .i64 (countT t m).1,.int .i64 (countT t m).2],[]⟩)):ak Tryz.prog 142 [.st .term t,.int .i64 m] [] (⟨some (szT t<=n+1/\0<=m/\m<=1000000),none,.tup [.int .i64 (countT t m).1,.int .i64 (countT t m).2],[]⟩):=
 g0 (sc (hA) sn) ⟨[(3,fun S0=>⟨Nat×Int×Int,fun y=>y.1<=t.parts.length/\1<=y.2.1/\y.2.1<=m+1/\0<=y.2.2/\y.2.2+1<=y.2.1/\countL (t.parts.drop y.1) m y.2.1 y.2.2=countL t.parts m 1 0,fun y=>[(6,.int .i64 y.2.1),(7,.int .i64 y.2.2),(15,.int .i64 y.1)],fun _=>[],fun y=>t.parts.length-y.1⟩)],[],[]⟩ Tryz.func142 (GY n t m hs hz h0 h1)
theorem uA:∀n:Nat,ah Tryz.prog 142 (p2 (.st .term) (.int .i64) fun t m=>⟨some (szT t<=n/\0<=m/\m<=1000000),none,.tup [.int .i64 (countT t m).1,.int .i64 (countT t m).2],[]⟩)
 |0=>bT wQ fun t m hs _ ho=>absurd (ho _ rfl).1 (by have:=hX t;omega)
 |n+1=>bT wQ fun t m hs _ ho=>yz n t m hs (ho _ rfl).1 (ho _ rfl).2.1 (ho _ rfl).2.2 (uA n)
theorem Bw:ah Tryz.prog 276 (pcl .str 47 fun x=>⟨none,none,.bool (!aX x),[]⟩):=
 xZ (ee Tryz.func276) fun x _ ho=>g0 (sc jm sn) a0 Tryz.func276 (DK x)
theorem Bx:ah Tryz.prog 302 (pfc (.lst .str) 276 47 fun l=>⟨none,none,.int .i64 (bn aX l 0),[]⟩):=
 lS (ee Tryz.func302) fun l hl ho=>g0 (sc Bw sn) ⟨[(2,fun S0=>⟨Nat,fun k=>k<=l.length/\bn aX (l.drop k) k=bn aX l 0,fun k=>[(8,.int .i64 k)],fun _=>[],fun k=>l.length-k⟩)],[],[]⟩ Tryz.func302 (DL l hl)
theorem By:ah Tryz.prog 275 (pfc (.lst .str) 276 47 fun l=>⟨none,none,.bool (!l.all aX),[]⟩):=
 lS (ee Tryz.func275) fun l _ ho=>g0 (sc Bx sn) a0 Tryz.func275 (DM l)
theorem wR:ah Tryz.prog 238 (pf (.lst .str) 47 fun l=>⟨none,none,.bool (l.all aX),[]⟩):=
 nd (ee Tryz.func238) fun l _ ho=>g0 (sc By sn) a0 Tryz.func238 (JP l)
theorem Ht:ah Tryz.prog 237 (p1 (.lst .str) fun l=>⟨some (l.length *16<=140737488355328),none,.bool (l.all aX&&decide l.Nodup),[]⟩):=
 bz (ee Tryz.func237) fun l _ ho=>g0 (sc nZ (sc (nQ) (sc wR (sc (lT) sn)))) a0 Tryz.func237 (JQ l (ho _ rfl))
theorem E7:Enters Tryz.prog 272:=ee Tryz.func272
theorem vw(n:Nat)(x:Shape) (ho:sz x<=n)(hA:ah Tryz.prog 273 (p1 (.st .shape) fun s=>⟨some (sz s<=n),none,.bool (allS aQ s),[]⟩)):ak Tryz.prog 272 [.st .shape x,.ptr 900 0] [(900,.box (.fn 273 []))] (⟨some (sz x<=n),none,.bool (!(allS aQ) x),[]⟩):=
 g0 (sc (hA) sn) a0 Tryz.func272 (DN n x ho)
theorem Bz(n:Nat)(hA:ah Tryz.prog 273 (p1 (.st .shape) fun s=>⟨some (sz s<=n),none,.bool (allS aQ s),[]⟩)):ah Tryz.prog 272 (pcl (.st .shape) 273 fun x=>⟨some (sz x<=n),none,.bool (!(allS aQ) x),[]⟩):=
 xZ E7 fun x _ ho=>vw n x (ho _ rfl) hA
theorem E8:Enters Tryz.prog 187:=ee Tryz.func187
theorem vz(n:Nat)(l:List AL.Shape) (hl:Wf (.lst (.st .shape)) l)(ho:∀x∈l,sz x<=n)(hA:ah Tryz.prog 273 (p1 (.st .shape) fun s=>⟨some (sz s<=n),none,.bool (allS aQ s),[]⟩)):ak Tryz.prog 187 [.lst (.st .shape) l none,.fn 272 [.ptr 900 0]] [(900,.box (.fn 273 []))] (⟨some (∀x∈l,sz x<=n),none,.int .i64 (bn (allS aQ) l 0),[]⟩):=
 g0 (sc ((Bz n hA)) sn) ⟨[(2,fun S0=>⟨Nat,fun k=>k<=l.length/\bn (allS aQ) (l.drop k) k=bn (allS aQ) l 0,fun k=>[(8,.int .i64 k)],fun _=>[],fun k=>l.length-k⟩)],[],[]⟩ Tryz.func187 (DO n l hl ho)
theorem BA(n:Nat)(hA:ah Tryz.prog 273 (p1 (.st .shape) fun s=>⟨some (sz s<=n),none,.bool (allS aQ s),[]⟩)):ah Tryz.prog 187 (pfc (.lst (.st .shape)) 272 273 fun l=>⟨some (∀x∈l,sz x<=n),none,.int .i64 (bn (allS aQ) l 0),[]⟩):=
 lS E8 fun l hl ho=>vz n l hl (ho _ rfl) hA
theorem E9:Enters Tryz.prog 140:=ee Tryz.func140
theorem vA(n:Nat)(l:List AL.Shape) (ho:∀x∈l,sz x<=n)(hA:ah Tryz.prog 273 (p1 (.st .shape) fun s=>⟨some (sz s<=n),none,.bool (allS aQ s),[]⟩)):ak Tryz.prog 140 [.lst (.st .shape) l none,.fn 272 [.ptr 900 0]] [(900,.box (.fn 273 []))] (⟨some (∀x∈l,sz x<=n),none,.bool (!l.all (allS aQ)),[]⟩):=
 g0 (sc ((BA n hA)) sn) a0 Tryz.func140 (DQ n l ho)
theorem BB(n:Nat)(hA:ah Tryz.prog 273 (p1 (.st .shape) fun s=>⟨some (sz s<=n),none,.bool (allS aQ s),[]⟩)):ah Tryz.prog 140 (pfc (.lst (.st .shape)) 272 273 fun l=>⟨some (∀x∈l,sz x<=n),none,.bool (!l.all (allS aQ)),[]⟩):=
 lS E9 fun l _ ho=>vA n l (ho _ rfl) hA
theorem Kf:Enters Tryz.prog 234:=ee Tryz.func234
theorem BC(n:Nat)(l:List AL.Shape) (ho:∀x∈l,sz x<=n)(hA:ah Tryz.prog 273 (p1 (.st .shape) fun s=>⟨some (sz s<=n),none,.bool (allS aQ s),[]⟩)):ak Tryz.prog 234 [.lst (.st .shape) l none,.fn 273 []] [] (⟨some (∀x∈l,sz x<=n),none,.bool (l.all (allS aQ)),[]⟩):=
 g0 (sc ((BB n hA)) sn) a0 Tryz.func234 (JR n l ho)
theorem Hu(n:Nat)(hA:ah Tryz.prog 273 (p1 (.st .shape) fun s=>⟨some (sz s<=n),none,.bool (allS aQ s),[]⟩)):ah Tryz.prog 234 (pf (.lst (.st .shape)) 273 fun l=>⟨some (∀x∈l,sz x<=n),none,.bool (l.all (allS aQ)),[]⟩):=
 nd Kf fun l _ ho=>BC n l (ho _ rfl) hA
theorem Fv:Enters Tryz.prog 273:=ee Tryz.func273
theorem Ea(n:Nat)(s:AL.Shape)(ho:sz s<=n+1)(hE:ah Tryz.prog 234 (pf (.lst (.st .shape)) 273 fun l=>⟨some (∀x∈l,sz x<=n),none,.bool (l.all (allS aQ)),[]⟩)):ak Tryz.prog 273 [.st .shape s] [] (⟨some (sz s<=n+1),none,.bool (allS aQ s),[]⟩):=
 g0 (sc (hE) sn) a0 Tryz.func273 (LP n s ho)
theorem BD:∀n:Nat,ah Tryz.prog 273 (p1 (.st .shape) fun s=>⟨some (sz s<=n),none,.bool (allS aQ s),[]⟩)
 |0=>bz Fv fun s _ ho=>absurd (ho _ rfl) (by have:=fG s;omega)
 |n+1=>bz Fv fun s _ ho=>Ea n s (ho _ rfl) (Hu n (BD n))
theorem Eb:ah Tryz.prog 235 (p1 (.st .shape) fun s=>.ret (.bool (decide (aH s=0)&&allS aQ s))):=
 bz (ee Tryz.func235) fun s _ _=>g0 (sc gW (sc (BD 400) sn)) a0 Tryz.func235 (GZ s)
theorem M4:ah Tryz.prog 233 (p1 (.st .term) fun t=>.ret (.agg [.int .i64 (t.names.length:Int),.int .i64 (t.vars.length:Int),.int .i64 (t.shapes.length:Int),.int .i64 (t.parts.length:Int)])):=
 bz (ee Tryz.func233) fun t _ _=>g0 sn a0 Tryz.func233 (N8 t)
theorem Hv:ah Tryz.prog 236 (p1 .str fun s=>.ret (.bool (tM s))):=
 bz (ee Tryz.func236) fun s hs _=>g0 (sc (Gi) sn) ⟨[(2,fun S0=>⟨Nat,fun k=>k<=s.length/\(s.all jj)=(s.drop k).all jj,fun k=>[(8,.int .i64 k)],fun _=>[],fun k=>s.length-k⟩)],[],[]⟩ Tryz.func236 (JS s hs)
theorem yA:ah Tryz.prog 272 (pcl (.st .shape) 235 fun x=>⟨none,none,.bool (!cO x),[]⟩):=
 xZ (ee Tryz.func272) fun x _ ho=>g0 (sc Eb sn) a0 Tryz.func272 (Bg x)
theorem yB:ah Tryz.prog 187 (pfc (.lst (.st .shape)) 272 235 fun l=>⟨none,none,.int .i64 (bn cO l 0),[]⟩):=
 lS (ee Tryz.func187) fun l hl ho=>g0 (sc yA sn) ⟨[(2,fun S0=>⟨Nat,fun k=>k<=l.length/\bn cO (l.drop k) k=bn cO l 0,fun k=>[(8,.int .i64 k)],fun _=>[],fun k=>l.length-k⟩)],[],[]⟩ Tryz.func187 (Bh l hl)
theorem yC:ah Tryz.prog 140 (pfc (.lst (.st .shape)) 272 235 fun l=>⟨none,none,.bool (!l.all cO),[]⟩):=
 lS (ee Tryz.func140) fun l _ ho=>g0 (sc yB sn) a0 Tryz.func140 (Bi l)
theorem Ec:ah Tryz.prog 234 (pf (.lst (.st .shape)) 235 fun l=>⟨none,none,.bool (l.all cO),[]⟩):=
 nd (ee Tryz.func234) fun l _ ho=>g0 (sc yC sn) a0 Tryz.func234 (H0 l)
theorem Hw:ah Tryz.prog 188 (p1 (.st .term) fun t=>⟨some (t.names.length<=8796093022208),none,.bool (ao t),[]⟩):=
 bz (ee Tryz.func188) fun t ht ho=>g0 (sc M4 (sc Ec (sc Hv (sc jm (sc Ht (sc wR (sc kj sn))))))) ⟨[],[],[(2,fun S0=>⟨[(34,.bool (!oQ t))],[]⟩)]⟩ Tryz.func188 (JT t ht (ho _ rfl))
theorem BE:Enters Tryz.prog 240:=ee Tryz.func240
theorem uB(n:Nat)(x:Trm) (ho:szT x<=n/\cm x=true)(hA:ah Tryz.prog 143 (p1 (.st .term) fun t=>⟨some (szT t<=n/\cm t=true),none,.bool (allT ao t),[]⟩)):ak Tryz.prog 240 [.st .term x,.ptr 900 0] [(900,.box (.fn 143 []))] (⟨some (szT x<=n/\cm x=true),none,.bool (!(allT ao) x),[]⟩):=
 g0 (sc (hA) sn) a0 Tryz.func240 (Bj n x ho)
theorem yD(n:Nat)(hA:ah Tryz.prog 143 (p1 (.st .term) fun t=>⟨some (szT t<=n/\cm t=true),none,.bool (allT ao t),[]⟩)):ah Tryz.prog 240 (pcl (.st .term) 143 fun x=>⟨some (szT x<=n/\cm x=true),none,.bool (!(allT ao) x),[]⟩):=
 xZ BE fun x _ ho=>uB n x (ho _ rfl) hA
theorem BF:Enters Tryz.prog 277:=ee Tryz.func277
theorem uC(n:Nat)(l:List Trm) (hl:Wf (.lst (.st .term)) l)(ho:∀x∈l,szT x<=n/\cm x=true)(hA:ah Tryz.prog 143 (p1 (.st .term) fun t=>⟨some (szT t<=n/\cm t=true),none,.bool (allT ao t),[]⟩)):ak Tryz.prog 277 [.lst (.st .term) l none,.fn 240 [.ptr 900 0]] [(900,.box (.fn 143 []))] (⟨some (∀x∈l,szT x<=n/\cm x=true),none,.int .i64 (bn (allT ao) l 0),[]⟩):=
 g0 (sc ((yD n hA)) sn) ⟨[(2,fun S0=>⟨Nat,fun k=>k<=l.length/\bn (allT ao) (l.drop k) k=bn (allT ao) l 0,fun k=>[(8,.int .i64 k)],fun _=>[],fun k=>l.length-k⟩)],[],[]⟩ Tryz.func277 (Bk n l hl ho)
theorem yE(n:Nat)(hA:ah Tryz.prog 143 (p1 (.st .term) fun t=>⟨some (szT t<=n/\cm t=true),none,.bool (allT ao t),[]⟩)):ah Tryz.prog 277 (pfc (.lst (.st .term)) 240 143 fun l=>⟨some (∀x∈l,szT x<=n/\cm x=true),none,.int .i64 (bn (allT ao) l 0),[]⟩):=
 lS BF fun l hl ho=>uC n l hl (ho _ rfl) hA
theorem BG:Enters Tryz.prog 239:=ee Tryz.func239
theorem uD(n:Nat)(l:List Trm) (ho:∀x∈l,szT x<=n/\cm x=true)(hA:ah Tryz.prog 143 (p1 (.st .term) fun t=>⟨some (szT t<=n/\cm t=true),none,.bool (allT ao t),[]⟩)):ak Tryz.prog 239 [.lst (.st .term) l none,.fn 240 [.ptr 900 0]] [(900,.box (.fn 143 []))] (⟨some (∀x∈l,szT x<=n/\cm x=true),none,.bool (!l.all (allT ao)),[]⟩):=
 g0 (sc ((yE n hA)) sn) a0 Tryz.func239 (Bl n l ho)
theorem yF(n:Nat)(hA:ah Tryz.prog 143 (p1 (.st .term) fun t=>⟨some (szT t<=n/\cm t=true),none,.bool (allT ao t),[]⟩)):ah Tryz.prog 239 (pfc (.lst (.st .term)) 240 143 fun l=>⟨some (∀x∈l,szT x<=n/\cm x=true),none,.bool (!l.all (allT ao)),[]⟩):=
 lS BG fun l _ ho=>uD n l (ho _ rfl) hA
theorem Hx:Enters Tryz.prog 189:=ee Tryz.func189
theorem yG(n:Nat)(l:List Trm) (ho:∀x∈l,szT x<=n/\cm x=true)(hA:ah Tryz.prog 143 (p1 (.st .term) fun t=>⟨some (szT t<=n/\cm t=true),none,.bool (allT ao t),[]⟩)):ak Tryz.prog 189 [.lst (.st .term) l none,.fn 143 []] [] (⟨some (∀x∈l,szT x<=n/\cm x=true),none,.bool (l.all (allT ao)),[]⟩):=
 g0 (sc ((yF n hA)) sn) a0 Tryz.func189 (H2 n l ho)
theorem Ed(n:Nat)(hA:ah Tryz.prog 143 (p1 (.st .term) fun t=>⟨some (szT t<=n/\cm t=true),none,.bool (allT ao t),[]⟩)):ah Tryz.prog 189 (pf (.lst (.st .term)) 143 fun l=>⟨some (∀x∈l,szT x<=n/\cm x=true),none,.bool (l.all (allT ao)),[]⟩):=
 nd Hx fun l _ ho=>yG n l (ho _ rfl) hA
theorem wS:Enters Tryz.prog 143:=ee Tryz.func143
theorem yH(n:Nat)(t:Trm)(ho:szT t<=n+1/\cm t=true)(hE:ah Tryz.prog 189 (pf (.lst (.st .term)) 143 fun l=>⟨some (∀x∈l,szT x<=n/\cm x=true),none,.bool (l.all (allT ao)),[]⟩)):ak Tryz.prog 143 [.st .term t] [] (⟨some (szT t<=n+1/\cm t=true),none,.bool (allT ao t),[]⟩):=
 g0 (sc Hw (sc (hE) sn)) a0 Tryz.func143 (H3 n t ho)
theorem uE:∀n:Nat,ah Tryz.prog 143 (p1 (.st .term) fun t=>⟨some (szT t<=n/\cm t=true),none,.bool (allT ao t),[]⟩)
 |0=>bz wS fun t _ ho=>absurd (ho _ rfl).1 (by have:=hX t;omega)
 |n+1=>bz wS fun t _ ho=>yH n t (ho _ rfl) (Ed n (uE n))
theorem yI(x:Trm)(ho:cm x=true) :ak Tryz.prog 91 [.st .term x] [] (⟨some (cm x=true),none,.int .i64 (dt x),[]⟩):=
 g0 (sc (uA (szT x)) (sc (uE (szT x)) sn)) a0 Tryz.func91 (H4 x ho)
theorem uF:ah Tryz.prog 91 (p1 (.st .term) fun t=>⟨some (cm t=true),none,.int .i64 (dt t),[]⟩):=
 bz (ee Tryz.func91) fun t _ ho=>yI t (ho _ rfl)
theorem BH:Enters Tryz.prog 18:=ee Tryz.func18
theorem BI(n:Nat)(s:Trm)(m:Int)(hs:Wf (.st .term) s)(ho:szT s<=n+1/\0<=m/\m<=1000000)(hA:ah Tryz.prog 18 (p2 (.st .term) (.int .i64) fun s m=>⟨some (szT s<=n/\0<=m/\m<=1000000),none,.int .i64 (eY s m),[]⟩)):ak Tryz.prog 18 [.st .term s,.int .i64 m] [] (.ret (.int .i64 (eY s m))):=
 g0 (sc (hA) sn) ⟨[(3,fun S0=>⟨Nat×Int,fun x=>x.1<=s.parts.length/\1<=x.2/\x.2<=m+1/\sizeTL (s.parts.drop x.1) x.2 m=eY s m,fun x=>[(5,.int .i64 x.2),(6,.int .i64 x.1)],fun _=>[],fun x=>s.parts.length-x.1⟩)],[],[]⟩ Tryz.func18 (JU n s m hs ho)
theorem Hy:∀n:Nat,ah Tryz.prog 18 (p2 (.st .term) (.int .i64) fun s m=>⟨some (szT s<=n/\0<=m/\m<=1000000),none,.int .i64 (eY s m),[]⟩):=by
 intro n
 induction n with
 |zero=>exact bT BH fun a m _ _ ho=>absurd (ho _ rfl).1 (by have:=hX a;omega)
 |succ n ih=>exact bT BH fun a m ha _ ho=>BI n a m ha (ho _ rfl) ih
theorem qP:ah Tryz.prog 137 (p1 .str fun s=>.ret (.bool (cJ s))):=
 bz (ee Tryz.func137) fun s _ _=>g0 (sc (Ag) sn) a0 Tryz.func137 (DR s)
theorem Hz:ah Tryz.prog 87 (p1 .str fun s=>.ret (.bool (gF s))):=
 bz (ee Tryz.func87) fun s hs _=>g0 (sc qP sn) ⟨[(4,fun S0=>⟨Nat,fun k=>k<=s.length/\(s.all fun c=>jo (bI c))=(s.drop k).all fun c=>jo (bI c),fun k=>[(22,.int .i64 k)],fun _=>[],fun k=>s.length-k⟩)],[],[]⟩ Tryz.func87 (JV s hs)
theorem uG:ah Tryz.prog 48 (p1 (.st .version) fun v=>.ret (.int .i64 (dZ v))):=
 bz (ee Tryz.func48) fun v hv _=>g0 (sc (pQ) (sc Hz sn)) ⟨[(2,fun S0=>⟨Nat,fun k=>k<=3/\([v.major,v.minor,v.patch].take k).all r8=true,fun k=>[(15,.int .i64 k)],fun _=>[],fun k=>3-k⟩),(11,fun S0=>⟨Nat,fun k=>k<=(splitB 46 v.pre).length/\((splitB 46 v.pre).take k).all gF=true,fun k=>[(37,.int .i64 k)],fun _=>[],fun k=>(splitB 46 v.pre).length-k⟩)],[],[]⟩ Tryz.func48 (H5 v hv)
theorem uH:ah Tryz.prog 104 (p1 (.lst (.st .bind)) fun l=>⟨some (l.length *120<=140737488355328),none,.lst (.st .bind) l (some 5),[(5,.tail (.st .bind) l.length)]⟩):=
 bz (ee Tryz.func104) fun l hl ho=>g0 sn a0 Tryz.func104 (H6 l hl (ho _ rfl))
theorem BJ:ah Tryz.prog 195 (p2 (.st .env) (.lst (.st .bind)) fun e l=>⟨some (e.values.length<=1000000000/\l.length<=1000),none,.st .env (cd e l),[]⟩):=
 bT (ee Tryz.func195) fun e l he hl ho=>g0 (sc uH sn) a0 Tryz.func195 (LQ e l he hl (ho _ rfl))
theorem Ee:ah Tryz.prog 315 (p3 (.st .shape) (.st .shape) .bool fun a b f=>.ret (.bool (decide (f=decide (a.kind=6))))):=
 F0 (ee Tryz.func315) fun a b f _ _ _ _=>g0 sn a0 Tryz.func315 (H7 a b f)
theorem HA:ah Tryz.prog 305 (p0 ⟨none,none,.ptr 2 0,[(2,.box (.agg [.fn 315 []]))]⟩):=
 J7 (ee Tryz.func305) (g0 sn a0 Tryz.func305 (JW))
theorem wT:ah Tryz.prog 316 (p2 (.st .shape) .str fun s m=>⟨some (aV s=true),none,.pt .shape (bU s m),[]⟩):=
 bT (ee Tryz.func316) fun s m hs _ ho=>g0 (sc uw sn) a0 Tryz.func316 (JX s m hs (ho _ rfl))
theorem Ef:ah Tryz.prog 317 (Di fun m s=>⟨some (aV s=true),none,.bool (bU s m).isNone,[]⟩):=
 Gs (ee Tryz.func317) fun m s ho=>g0 (sc wT sn) a0 Tryz.func317 (H8 m s (ho _ rfl))
theorem HB:ah Tryz.prog 304 (p2 (.st .shape) (.st .shape) fun a b=>.ret (.bool (decide (aH a=0)&&decide (aH b=0)))):=
 bT (ee Tryz.func304) fun a b _ _ _=>g0 (sc gW sn) a0 Tryz.func304 (JY a b)
theorem Kg:ah Tryz.prog 302 (oU 317 fun l s=>⟨some (aV s=true),none,.int .i64 (bn (fun m=>(bU s m).isSome) l 0),[]⟩):=
 qE (ee Tryz.func302) fun l s hl ho=>g0 (sc Ef sn) ⟨[(2,fun S0=>⟨Nat,fun k=>k<=l.length/\bn (fun m=>(bU s m).isSome) (l.drop k) k=bn (fun m=>(bU s m).isSome) l 0,fun k=>[(8,.int .i64 k)],fun _=>[],fun k=>l.length-k⟩)],[],[]⟩ Tryz.func302 (LR l s hl (ho _ rfl))
theorem Kh:ah Tryz.prog 275 (oU 317 fun l s=>⟨some (aV s=true),none,.bool (!l.all (fun m=>(bU s m).isSome)),[]⟩):=
 qE (ee Tryz.func275) fun l s _ ho=>g0 (sc Kg sn) a0 Tryz.func275 (LS l s (ho _ rfl))
theorem BK:Enters Tryz.prog 306:=ee Tryz.func306
def NR(n:Nat):=yg 315 fun a b=>⟨some (sz a+sz b<=n/\allS aV a=true/\allS aV b=true),none,.bool (cG n a b),[]⟩
theorem BL(n:Nat)(a b:Shape)(ha:Wf (.st .shape) a)(hb:Wf (.st .shape) b)(hn:sz a+sz b<=n+1)(oa:allS aV a=true)(ob:allS aV b=true)(hA:ah Tryz.prog 306 (NR n)):ak Tryz.prog 306 [.ptr 900 0,.st .shape a,.st .shape b] [(900,.box (.agg [.fn 315 []]))] (⟨some (sz a+sz b<=n+1/\allS aV a=true/\allS aV b=true),none,.bool (cG (n+1) a b),[]⟩):=
 g0 (sc Ee (sc wT (sc Kh (sc (hA) sn)))) ⟨[(7,fun S0=>⟨Nat,fun k=>k<=a.names.length/\iO (cG n) (decide (a.kind=7)) b (a.names.drop k) (a.parts.drop k)=iO (cG n) (decide (a.kind=7)) b a.names a.parts,fun k=>[(54,.int .i64 k)],fun _=>[],fun k=>a.names.length-k⟩),(17,fun S0=>⟨Nat,fun k=>k<=a.parts.length/\cG (n+1) a b=nt (cG n) (decide (a.kind=8)) (a.parts.drop k) (b.parts.drop k),fun k=>[(117,.int .i64 k)],fun _=>[],fun k=>a.parts.length-k⟩)],[],[(5,fun S0=>⟨[(42,.bool (decide (a.kind=6)||decide (a.kind=7)))],[]⟩)]⟩ Tryz.func306 (JZ n a b ha hb hn oa ob)
theorem wU:∀n:Nat,ah Tryz.prog 306 (NR n)
 |0=>wy BK fun a b ha hb ho=>absurd (fG a) (by have:=(ho _ rfl).1;omega)
 |n+1=>wy BK fun a b ha hb ho=>BL n a b ha hb (ho _ rfl).1 (ho _ rfl).2.1 (ho _ rfl).2.2 (wU n)
theorem Ki:ah Tryz.prog 281 (p2 (.st .shape) (.st .shape) fun a b=>.ret (.bool (oR a b))):=
 bT (ee Tryz.func281) fun a b ha hb _=>g0 (sc HB (sc HA (sc (wU 800) sn))) a0 Tryz.func281 (LU a b ha hb)
theorem Eg(k:Nam)(v:Shape)  :ak Tryz.prog 149 [.ptr 900 0,.st .nm k,.st .shape v] [(900,.box (.agg [.nilm]))] (⟨none,none,.tup [],[(900,.box (.map 12)),(12,.map (.st .nm) (.st .shape) (bO ([]:List (Nam×Shape)) k v))]⟩):=
 g0 sn a0 Tryz.func149 (LV k v)
theorem BM:ah Tryz.prog 149 (Dj fun m k v=>match m with|none=>⟨none,none,.tup [],[(900,.box (.map 12)),(12,.map (.st .nm) (.st .shape) (bO ([]:List (Nam×Shape)) k v))]⟩|some m=>⟨none,none,.tup [],[(901,.map (.st .nm) (.st .shape) (bO m k v))]⟩):=
 Gt (ee Tryz.func149) (fun k v=>Eg k v) fun m k v=>g0 sn a0 Tryz.func149 (LW m k v)
theorem Eh(k:Nam)  :ak Tryz.prog 148 [.ptr 900 0,.st .nm k] [(900,.box (.agg [.nilm]))] (.ret (.tup [.st .shape ((dR [] k.pkg k.name).getD aK),.bool (dR [] k.pkg k.name).isSome])):=
 g0 sn a0 Tryz.func148 (LX k)
theorem BN:ah Tryz.prog 148 (Dk fun m k=>.ret (.tup [.st .shape ((dR (m.getD []) k.pkg k.name).getD aK),.bool (dR (m.getD []) k.pkg k.name).isSome])):=
 Gu (ee Tryz.func148) (fun k=>Eh k) fun m k=>g0 sn a0 Tryz.func148 (LY m k)
def NQ(n:Nat):=oW fun m s=>⟨some (sz s<=n/\n<=400/\allS aV s=true),none,.tup [.st .shape ((fillS (dR (m.getD [])) s).getD aK),.bool (fillS (dR (m.getD [])) s).isSome],[]⟩
theorem BO(n:Nat)(s:AL.Shape)(hs:Wf (.st .shape) s)(hn:sz s<=n+1)(h4:n+1<=400)(os:allS aV s=true)(hA:ah Tryz.prog 101 (NQ n)):ak Tryz.prog 101 [.st .shape s,.ptr 900 0] [(900,.box (.agg [.nilm]))] (⟨some (sz s<=(n+1)/\(n+1)<=400/\allS aV s=true),none,.tup [.st .shape ((fillS (dR []) s).getD aK),.bool (fillS (dR []) s).isSome],[]⟩):=
 g0 (sc BN (sc (hA) (sc (ki) sn))) ⟨[(5,fun S0=>⟨Nat×List AL.Shape,fun x=>x.1<=s.parts.length/\x.2.length=x.1/\fillL (dR []) s.parts=(fillL (dR []) (s.parts.drop x.1)).map (x.2++ ·),fun x=>[(30,.int .i64 x.1),(6,.lst (.st .shape) x.2 (some 26))],fun x=>[(26,.tail (.st .shape) x.2.length)],fun x=>s.parts.length-x.1⟩)],[],[]⟩ Tryz.func101 (K0 n s hs hn h4 os)
theorem BP:Enters Tryz.prog 101:=ee Tryz.func101
theorem BQ(n:Nat)(m:List (Nam×Shape))(s:AL.Shape)(hs:Wf (.st .shape) s)(hn:sz s<=n+1)(h4:n+1<=400)(os:allS aV s=true)(hA:ah Tryz.prog 101 (NQ n)):ak Tryz.prog 101 [.st .shape s,.ptr 900 0] [(900,.box (.map 901)),(901,.map (.st .nm) (.st .shape) m)] (⟨some (sz s<=(n+1)/\(n+1)<=400/\allS aV s=true),none,.tup [.st .shape ((fillS (dR m) s).getD aK),.bool (fillS (dR m) s).isSome],[]⟩):=
 g0 (sc BN (sc (hA) (sc (ki) sn))) ⟨[(5,fun S0=>⟨Nat×List AL.Shape,fun x=>x.1<=s.parts.length/\x.2.length=x.1/\fillL (dR m) s.parts=(fillL (dR m) (s.parts.drop x.1)).map (x.2++ ·),fun x=>[(30,.int .i64 x.1),(6,.lst (.st .shape) x.2 (some 26))],fun x=>[(26,.tail (.st .shape) x.2.length)],fun x=>s.parts.length-x.1⟩)],[],[]⟩ Tryz.func101 (K1 n m s hs hn h4 os)
theorem mQ:∀n:Nat,ah Tryz.prog 101 (NQ n)
 |0=>tS BP (fun s hs ho=>absurd (fG s) (by have:=(ho _ rfl).1;omega)) (fun m s hs ho=>absurd (fG s) (by have:=(ho _ rfl).1;omega))
 |n+1=>tS BP (fun s hs ho=>BO n s hs (ho _ rfl).1 (ho _ rfl).2.1 (ho _ rfl).2.2 (mQ n)) (fun m s hs ho=>BQ n m s hs (ho _ rfl).1 (ho _ rfl).2.1 (ho _ rfl).2.2 (mQ n))
theorem yJ   :ak Tryz.prog 102 [.lst (.st .bind) [] none] [] (⟨none,none,.ptr 7 0,[(7,.box (.agg [.nilm]))]⟩):=
 g0 (sc BM sn) ⟨[(3,fun S0=>⟨Nat,fun _=>True,fun _=>[(10,.int .i64 0)],fun _=>[],fun _=>0⟩)],[],[]⟩ Tryz.func102 (H9)
theorem uI:ah Tryz.prog 102 (tT ⟨none,none,.ptr 7 0,[(7,.box (.agg [.nilm]))]⟩ fun b r=>⟨none,none,.ptr 7 0,[(7,.box (.map 701)),(701,.map (.st .nm) (.st .shape) (lX (b::r)))]⟩):=
 Ao (ee Tryz.func102) yJ fun b r hl=>g0 (sc BM sn) ⟨[(3,fun S0=>⟨Nat×List (Nam×Shape),fun x=>x.1<=(b::r).length/\qF ((b::r).drop x.1) x.2=lX (b::r),fun x=>[(10,.int .i64 x.1)],fun x=>[(7,.box (.map 701)),(701,.map (.st .nm) (.st .shape) x.2)],fun x=>(b::r).length-x.1⟩)],[(200003,[1,13022,701])],[]⟩ Tryz.func102 (Ha b r hl)
theorem uJ(s:AL.Shape)(hs:Wf (.st .shape) s) :ak Tryz.prog 59 [.st .shape s,.lst (.st .bind) [] none] [] (.ret (.tup [.st .shape (aO s []).1,.int .i64 (aO s []).2])):=
 g0 (sc gW (sc uI (sc (mQ 400) (sc mg sn)))) a0 Tryz.func59 (Bn s hs)
theorem mh:ah Tryz.prog 59 (p2 (.st .shape) (.lst (.st .bind)) fun s l=>.ret (.tup [.st .shape (aO s l).1,.int .i64 (aO s l).2])):=
 bT (ee Tryz.func59) fun s l hs hl _=>match l,hl with|[],_=>uJ s hs|b::r,hl=>g0 (sc gW (sc uI (sc (mQ 400) (sc mg sn)))) a0 Tryz.func59 (DS s b r hs hl)
theorem yK:ah Tryz.prog 96 (p1 (.int .i64) fun k=>.ret (.st .shape (ofK k))):=
 bz (ee Tryz.func96) fun k _ _=>g0 sn a0 Tryz.func96 (N9 k)
theorem fe:ah Tryz.prog 99 (p2 (.int .i64) (.int .i64) fun e a=>.ret (.agg [.int .i64 e,.int .i64 a])):=
 bT (ee Tryz.func99) fun e a _ _ _=>g0 sn a0 Tryz.func99 (Hb e a)
theorem HC:ah Tryz.prog 192 (p3 (.lst (.st .bind)) .str .str fun l o m=>.ret (.tup [.st .shape ((ar l o m).elim aK bN),.bool (ar l o m).isSome])):=
 F0 (ee Tryz.func192) fun l o m hl _ _ _=>g0 (sc mg sn) ⟨[(2,fun S0=>⟨Nat,fun k=>k<=l.length/\ar l o m=ar (l.take k) o m,fun k=>[(8,.int .i64 ((k:Int)-1))],fun _=>[],fun k=>k⟩)],[],[]⟩ Tryz.func192 (K2 l o m hl)
theorem wV:Enters Tryz.prog 100:=ee Tryz.func100
theorem yL(n:Nat)(t:Trm)(e:Envt)(ht:Wf (.st .term) t)(he:Wf (.st .env) e)(hz:szT t<=n+1)(hf:allT ao t=true)(hv:e.values.length+4096 *szT t<=100000000)(hP:ah Tryz.prog 147 (p2 (.st .term) (.st .env) fun t e=>⟨some (szT t<=n+1/\allT ao t=true/\e.values.length+4096 *szT t<=100000000),none,.tup [.st .shape (bf (ag n) t e).1,.agg [.int .i64 (bf (ag n) t e).2.err,.int .i64 (bf (ag n) t e).2.pos]],[]⟩)):ak Tryz.prog 100 [.st .term t,.st .env e] [] (⟨some (szT t<=n+1/\allT ao t=true/\e.values.length+4096 *szT t<=100000000),none,.tup [.st .shape (ag (n+1) t e).1,.agg [.int .i64 (ag (n+1) t e).2.err,.int .i64 (ag (n+1) t e).2.pos]],[]⟩):=
 g0 (sc (hP) (sc gW (sc mg (sc fe sn)))) a0 Tryz.func100 (Hc n t e ht he hz hf hv)
theorem Kj:Enters Tryz.prog 250:=ee Tryz.func250
theorem BR(n:Nat)(t:Trm)(w:Shape)(e:Envt)(ht:Wf (.st .term) t)(hw:Wf (.st .shape) w)(he:Wf (.st .env) e)(hz:szT t<=n)(hf:allT ao t=true)(hv:e.values.length+4096 *szT t<=100000000)(hA:ah Tryz.prog 100 (p2 (.st .term) (.st .env) fun t e=>⟨some (szT t<=n/\allT ao t=true/\e.values.length+4096 *szT t<=100000000),none,.tup [.st .shape (ag n t e).1,.agg [.int .i64 (ag n t e).2.err,.int .i64 (ag n t e).2.pos]],[]⟩)):ak Tryz.prog 250 [.st .term t,.st .shape w,.st .env e] [] (⟨some (szT t<=n/\allT ao t=true/\e.values.length+4096 *szT t<=100000000),none,.agg [.int .i64 (aW (ag n) t w e).err,.int .i64 (aW (ag n) t w e).pos],[]⟩):=
 g0 (sc (hA) (sc Ki (sc fe sn))) a0 Tryz.func250 (K3 n t w e ht hw he hz hf hv)
theorem HD(n:Nat)(hA:ah Tryz.prog 100 (p2 (.st .term) (.st .env) fun t e=>⟨some (szT t<=n/\allT ao t=true/\e.values.length+4096 *szT t<=100000000),none,.tup [.st .shape (ag n t e).1,.agg [.int .i64 (ag n t e).2.err,.int .i64 (ag n t e).2.pos]],[]⟩)):ah Tryz.prog 250 (p3 (.st .term) (.st .shape) (.st .env) fun t w e=>⟨some (szT t<=n/\allT ao t=true/\e.values.length+4096 *szT t<=100000000),none,.agg [.int .i64 (aW (ag n) t w e).err,.int .i64 (aW (ag n) t w e).pos],[]⟩):=
 F0 Kj fun t w e ht hw he ho=>BR n t w e ht hw he (ho _ rfl).1 (ho _ rfl).2.1 (ho _ rfl).2.2 hA
theorem HE:Enters Tryz.prog 194:=ee Tryz.func194
theorem yM(n:Nat)(t:Trm)(e:Envt)(ht:Wf (.st .term) t)(he:Wf (.st .env) e)(hp:0<t.parts.length)(hz:szT t<=n+1)(hf:allT ao t=true)(hv:e.values.length+4096 *szT t<=100000000)(hA:ah Tryz.prog 100 (p2 (.st .term) (.st .env) fun t e=>⟨some (szT t<=n/\allT ao t=true/\e.values.length+4096 *szT t<=100000000),none,.tup [.st .shape (ag n t e).1,.agg [.int .i64 (ag n t e).2.err,.int .i64 (ag n t e).2.pos]],[]⟩)):ak Tryz.prog 194 [.st .term t,.st .env e] [] (⟨some (0<t.parts.length/\szT t<=n+1/\allT ao t=true/\e.values.length+4096 *szT t<=100000000),none,.tup [.st .shape (iI (ag n) t e).1,.agg [.int .i64 (iI (ag n) t e).2.err,.int .i64 (iI (ag n) t e).2.pos]],[]⟩):=
 g0 (sc (hA) (sc uw (sc fe sn))) a0 Tryz.func194 (Hd n t e ht he hp hz hf hv)
theorem Ei(n:Nat)(hA:ah Tryz.prog 100 (p2 (.st .term) (.st .env) fun t e=>⟨some (szT t<=n/\allT ao t=true/\e.values.length+4096 *szT t<=100000000),none,.tup [.st .shape (ag n t e).1,.agg [.int .i64 (ag n t e).2.err,.int .i64 (ag n t e).2.pos]],[]⟩)):ah Tryz.prog 194 (p2 (.st .term) (.st .env) fun t e=>⟨some (0<t.parts.length/\szT t<=n+1/\allT ao t=true/\e.values.length+4096 *szT t<=100000000),none,.tup [.st .shape (iI (ag n) t e).1,.agg [.int .i64 (iI (ag n) t e).2.err,.int .i64 (iI (ag n) t e).2.pos]],[]⟩):=
 bT HE fun t e ht he ho=>yM n t e ht he (ho _ rfl).1 (ho _ rfl).2.1 (ho _ rfl).2.2.1 (ho _ rfl).2.2.2 hA
theorem Ej:ah Tryz.prog 251 (p2 (.st .term) (.st .env) fun t e=>⟨some (t.shapes.length<=1000000),none,.tup [.lst (.st .shape) (au e.types t.pos t.shapes).1 (some 702),.agg [.int .i64 (au e.types t.pos t.shapes).2.err,.int .i64 (au e.types t.pos t.shapes).2.pos]],[(702,.tail (.st .shape) (au e.types t.pos t.shapes).1.length)]⟩):=
 bT (ee Tryz.func251) fun t e ht he ho=>g0 (sc mh (sc fe sn)) ⟨[(3,fun S0=>⟨Nat×List AL.Shape,fun x=>x.1<=t.shapes.length/\x.2.length=x.1/\((au e.types t.pos (t.shapes.drop x.1)).2.err=0->au e.types t.pos t.shapes=(x.2++(au e.types t.pos (t.shapes.drop x.1)).1,cY))/\(¬(au e.types t.pos (t.shapes.drop x.1)).2.err=0->au e.types t.pos t.shapes=au e.types t.pos (t.shapes.drop x.1)),fun x=>[(14,.int .i64 x.1),(6,.lst (.st .shape) x.2 (some 701))],fun x=>[(701,.tail (.st .shape) x.2.length)],fun x=>t.shapes.length-x.1⟩)],[(300010,[701,702])],[]⟩ Tryz.func251 (He t e ht he (ho _ rfl))
theorem Kk:Enters Tryz.prog 193:=ee Tryz.func193
theorem BS(n:Nat)(t:Trm)(e:Envt)(ht:Wf (.st .term) t)(he:Wf (.st .env) e)(hp:0<t.parts.length)(hz:szT t<=n+1)(hf:allT ao t=true)(hv:e.values.length+4096 *szT t<=100000000)(hA:ah Tryz.prog 100 (p2 (.st .term) (.st .env) fun t e=>⟨some (szT t<=n/\allT ao t=true/\e.values.length+4096 *szT t<=100000000),none,.tup [.st .shape (ag n t e).1,.agg [.int .i64 (ag n t e).2.err,.int .i64 (ag n t e).2.pos]],[]⟩))(hF:ah Tryz.prog 250 (p3 (.st .term) (.st .shape) (.st .env) fun t w e=>⟨some (szT t<=n/\allT ao t=true/\e.values.length+4096 *szT t<=100000000),none,.agg [.int .i64 (aW (ag n) t w e).err,.int .i64 (aW (ag n) t w e).pos],[]⟩)):ak Tryz.prog 193 [.st .term t,.st .env e] [] (⟨some (0<t.parts.length/\szT t<=n+1/\allT ao t=true/\e.values.length+4096 *szT t<=100000000),none,.tup [.st .shape (fV (ag n) t e).1,.agg [.int .i64 (fV (ag n) t e).2.err,.int .i64 (fV (ag n) t e).2.pos]],[]⟩):=
 g0 (sc (hA) (sc (hF) (sc yK (sc fe sn)))) ⟨[(8,fun S0=>⟨Nat,fun k=>k+1<=t.parts.length/\((ag n (t.parts.getD 0 aT) e).1.kind=4->dm (ag n) e (ofK 4) (t.parts.drop 1)=dm (ag n) e (ofK 4) (t.parts.drop (k+1)))/\(¬(ag n (t.parts.getD 0 aT) e).1.kind=4->fU (ag n) e (t.parts.drop 1) (ag n (t.parts.getD 0 aT) e).1.parts=fU (ag n) e (t.parts.drop (k+1)) ((ag n (t.parts.getD 0 aT) e).1.parts.drop k)),fun k=>[(54,.int .i64 k)],fun _=>[],fun k=>t.parts.length-k⟩)],[],[(5,fun S0=>⟨[(45,.bool (!decide ((ag n (t.parts.getD 0 aT) e).1.kind=4)&&(!decide ((ag n (t.parts.getD 0 aT) e).1.kind=8)||!decide ((ag n (t.parts.getD 0 aT) e).1.parts.length=t.parts.length))))],[]⟩)]⟩ Tryz.func193 (K4 n t e ht he hp hz hf hv)
theorem HF(n:Nat)(hA:ah Tryz.prog 100 (p2 (.st .term) (.st .env) fun t e=>⟨some (szT t<=n/\allT ao t=true/\e.values.length+4096 *szT t<=100000000),none,.tup [.st .shape (ag n t e).1,.agg [.int .i64 (ag n t e).2.err,.int .i64 (ag n t e).2.pos]],[]⟩))(hF:ah Tryz.prog 250 (p3 (.st .term) (.st .shape) (.st .env) fun t w e=>⟨some (szT t<=n/\allT ao t=true/\e.values.length+4096 *szT t<=100000000),none,.agg [.int .i64 (aW (ag n) t w e).err,.int .i64 (aW (ag n) t w e).pos],[]⟩)):ah Tryz.prog 193 (p2 (.st .term) (.st .env) fun t e=>⟨some (0<t.parts.length/\szT t<=n+1/\allT ao t=true/\e.values.length+4096 *szT t<=100000000),none,.tup [.st .shape (fV (ag n) t e).1,.agg [.int .i64 (fV (ag n) t e).2.err,.int .i64 (fV (ag n) t e).2.pos]],[]⟩):=
 bT Kk fun t e ht he ho=>BS n t e ht he (ho _ rfl).1 (ho _ rfl).2.1 (ho _ rfl).2.2.1 (ho _ rfl).2.2.2 hA hF
theorem M5:Enters Tryz.prog 196:=ee Tryz.func196
theorem Ek(n:Nat)(t:Trm)(e:Envt)(ht:Wf (.st .term) t)(he:Wf (.st .env) e)(hp:0<t.parts.length)(hz:szT t<=n+1)(hf:allT ao t=true)(hv:e.values.length+4096 *szT t<=100000000)(hF:ah Tryz.prog 250 (p3 (.st .term) (.st .shape) (.st .env) fun t w e=>⟨some (szT t<=n/\allT ao t=true/\e.values.length+4096 *szT t<=100000000),none,.agg [.int .i64 (aW (ag n) t w e).err,.int .i64 (aW (ag n) t w e).pos],[]⟩)):ak Tryz.prog 196 [.st .term t,.st .env e] [] (⟨some (0<t.parts.length/\szT t<=n+1/\allT ao t=true/\e.values.length+4096 *szT t<=100000000),none,.tup [.st .shape (nR (ag n) t e).1,.agg [.int .i64 (nR (ag n) t e).2.err,.int .i64 (nR (ag n) t e).2.pos]],[]⟩):=
 g0 (sc (hF) (sc mg (sc fe sn))) ⟨[(4,fun S0=>⟨Nat×Option Shape,fun x=>x.1<=e.own.length/\(x.2=none->dK e.own t.name=dK (e.own.take x.1) t.name)/\(∀s,x.2=some s->dK e.own t.name=some s),fun x=>[(8,.int .i64 ((x.1:Int)-1)),(7,.bool x.2.isSome)],fun x=>[(6,.box (.st .shape (x.2.elim aK bN)))],fun x=>x.1⟩)],[],[]⟩ Tryz.func196 (LZ n t e ht he hp hz hf hv)
theorem Kl(n:Nat)(hF:ah Tryz.prog 250 (p3 (.st .term) (.st .shape) (.st .env) fun t w e=>⟨some (szT t<=n/\allT ao t=true/\e.values.length+4096 *szT t<=100000000),none,.agg [.int .i64 (aW (ag n) t w e).err,.int .i64 (aW (ag n) t w e).pos],[]⟩)):ah Tryz.prog 196 (p2 (.st .term) (.st .env) fun t e=>⟨some (0<t.parts.length/\szT t<=n+1/\allT ao t=true/\e.values.length+4096 *szT t<=100000000),none,.tup [.st .shape (nR (ag n) t e).1,.agg [.int .i64 (nR (ag n) t e).2.err,.int .i64 (nR (ag n) t e).2.pos]],[]⟩):=
 bT M5 fun t e ht he ho=>Ek n t e ht he (ho _ rfl).1 (ho _ rfl).2.1 (ho _ rfl).2.2.1 (ho _ rfl).2.2.2 hF
theorem HG:Enters Tryz.prog 197:=ee Tryz.func197
theorem yN(n:Nat)(t:Trm)(e:Envt)(ht:Wf (.st .term) t)(he:Wf (.st .env) e)(hk:t.kind=6∨t.kind=11∨t.kind=12∨t.kind=13∨t.kind=15)(hz:szT t<=n+1)(hf:allT ao t=true)(hv:e.values.length+4096 *szT t<=100000000)(hA:ah Tryz.prog 100 (p2 (.st .term) (.st .env) fun t e=>⟨some (szT t<=n/\allT ao t=true/\e.values.length+4096 *szT t<=100000000),none,.tup [.st .shape (ag n t e).1,.agg [.int .i64 (ag n t e).2.err,.int .i64 (ag n t e).2.pos]],[]⟩))(hF:ah Tryz.prog 250 (p3 (.st .term) (.st .shape) (.st .env) fun t w e=>⟨some (szT t<=n/\allT ao t=true/\e.values.length+4096 *szT t<=100000000),none,.agg [.int .i64 (aW (ag n) t w e).err,.int .i64 (aW (ag n) t w e).pos],[]⟩)):ak Tryz.prog 197 [.st .term t,.st .env e] [] (⟨some ((t.kind=6∨t.kind=11∨t.kind=12∨t.kind=13∨t.kind=15)/\szT t<=n+1/\allT ao t=true/\e.values.length+4096 *szT t<=100000000),none,.tup [.st .shape (cP (ag n) t e).1,.agg [.int .i64 (cP (ag n) t e).2.err,.int .i64 (cP (ag n) t e).2.pos]],[]⟩):=
 g0 (sc (hA) (sc (hF) (sc Ej (sc yK (sc BJ sn))))) ⟨[(8,fun S0=>⟨Nat×Envt,fun x=>x.1<=t.names.length/\x.2.values.length=e.values.length+x.1/\cd x.2 (gT (t.names.drop x.1) ((au e.types t.pos t.shapes).1.drop x.1))=cd e (gT t.names (au e.types t.pos t.shapes).1),fun x=>[(42,.int .i64 x.1)],fun x=>[(3,.box (.st .env x.2))],fun x=>t.names.length-x.1⟩),(16,fun S0=>⟨Nat,fun k=>k<=t.parts.length/\dm (ag n) e ((au e.types t.pos t.shapes).1.getD 0 aK) (t.parts.drop k)=dm (ag n) e ((au e.types t.pos t.shapes).1.getD 0 aK) t.parts,fun k=>[(77,.int .i64 k)],fun _=>[],fun k=>t.parts.length-k⟩),(37,fun S0=>⟨Nat×Flt,fun x=>x.1+1<=t.parts.length/\x.2.err=0/\x.2.pos=0/\gA (ag n) e ((au e.types t.pos t.shapes).1.getD ((au e.types t.pos t.shapes).1.length-1) aK) (t.parts.drop (x.1+1)) (t.vars.drop x.1) ((au e.types t.pos t.shapes).1.drop x.1)=gA (ag n) e ((au e.types t.pos t.shapes).1.getD ((au e.types t.pos t.shapes).1.length-1) aK) (t.parts.drop 1) t.vars (au e.types t.pos t.shapes).1,fun x=>[(180,.int .i64 x.1)],fun x=>[(7,.box (.agg [.int .i64 x.2.err,.int .i64 x.2.pos]))],fun x=>t.parts.length-x.1⟩)],[],[]⟩ Tryz.func197 (Hf n t e ht he hk hz hf hv)
theorem El(n:Nat)(hA:ah Tryz.prog 100 (p2 (.st .term) (.st .env) fun t e=>⟨some (szT t<=n/\allT ao t=true/\e.values.length+4096 *szT t<=100000000),none,.tup [.st .shape (ag n t e).1,.agg [.int .i64 (ag n t e).2.err,.int .i64 (ag n t e).2.pos]],[]⟩))(hF:ah Tryz.prog 250 (p3 (.st .term) (.st .shape) (.st .env) fun t w e=>⟨some (szT t<=n/\allT ao t=true/\e.values.length+4096 *szT t<=100000000),none,.agg [.int .i64 (aW (ag n) t w e).err,.int .i64 (aW (ag n) t w e).pos],[]⟩)):ah Tryz.prog 197 (p2 (.st .term) (.st .env) fun t e=>⟨some ((t.kind=6∨t.kind=11∨t.kind=12∨t.kind=13∨t.kind=15)/\szT t<=n+1/\allT ao t=true/\e.values.length+4096 *szT t<=100000000),none,.tup [.st .shape (cP (ag n) t e).1,.agg [.int .i64 (cP (ag n) t e).2.err,.int .i64 (cP (ag n) t e).2.pos]],[]⟩):=
 bT HG fun t e ht he ho=>yN n t e ht he (ho _ rfl).1 (ho _ rfl).2.1 (ho _ rfl).2.2.1 (ho _ rfl).2.2.2 hA hF
theorem HH:Enters Tryz.prog 147:=ee Tryz.func147
theorem yO(n:Nat)(t:Trm)(e:Envt)(ht:Wf (.st .term) t)(he:Wf (.st .env) e)(hz:szT t<=n+1)(hf:allT ao t=true)(hv:e.values.length+4096 *szT t<=100000000)(hA:ah Tryz.prog 100 (p2 (.st .term) (.st .env) fun t e=>⟨some (szT t<=n/\allT ao t=true/\e.values.length+4096 *szT t<=100000000),none,.tup [.st .shape (ag n t e).1,.agg [.int .i64 (ag n t e).2.err,.int .i64 (ag n t e).2.pos]],[]⟩))(hF:ah Tryz.prog 250 (p3 (.st .term) (.st .shape) (.st .env) fun t w e=>⟨some (szT t<=n/\allT ao t=true/\e.values.length+4096 *szT t<=100000000),none,.agg [.int .i64 (aW (ag n) t w e).err,.int .i64 (aW (ag n) t w e).pos],[]⟩)):ak Tryz.prog 147 [.st .term t,.st .env e] [] (⟨some (szT t<=n+1/\allT ao t=true/\e.values.length+4096 *szT t<=100000000),none,.tup [.st .shape (bf (ag n) t e).1,.agg [.int .i64 (bf (ag n) t e).2.err,.int .i64 (bf (ag n) t e).2.pos]],[]⟩):=
 g0 (sc (hA) (sc yK (sc fe (sc HC (sc BJ (sc ((HF n hA hF)) (sc ((Ei n hA)) (sc ((Kl n hF)) (sc ((El n hA hF)) sn))))))))) ⟨[(19,fun S0=>⟨Nat×List AL.Shape,fun x=>x.1<=t.parts.length/\x.2.length=x.1/\du (ag n) e t.parts=(x.2++(du (ag n) e (t.parts.drop x.1)).1,(du (ag n) e (t.parts.drop x.1)).2),fun x=>[(67,.int .i64 x.1)],fun x=>[(8,.box (.agg [.int .i64 6,.str [],.str [],.lst .str t.names none,.lst (.st .shape) x.2 (some 701)])),(701,.tail (.st .shape) x.2.length)],fun x=>t.parts.length-x.1⟩)],[],[(7,fun S0=>⟨[(27,.bool (decide (t.kind=3)||decide (t.kind=4)))],[]⟩)]⟩ Tryz.func147 (Hg n t e ht he hz hf hv)
theorem wW:∀n:Nat,ah Tryz.prog 100 (p2 (.st .term) (.st .env) fun t e=>⟨some (szT t<=n/\allT ao t=true/\e.values.length+4096 *szT t<=100000000),none,.tup [.st .shape (ag n t e).1,.agg [.int .i64 (ag n t e).2.err,.int .i64 (ag n t e).2.pos]],[]⟩)
 |0=>bT wV fun t e ht he ho=>absurd (hX t) (by have:=(ho _ rfl).1;omega)
 |n+1=>
  have hA:=wW n;have hF:=HD n hA
  bT wV fun t e ht he ho=>yL n t e ht he (ho _ rfl).1 (ho _ rfl).2.1 (ho _ rfl).2.2 (bT HH fun t e ht he ho=>yO n t e ht he (ho _ rfl).1 (ho _ rfl).2.1 (ho _ rfl).2.2 hA hF)
theorem HI:ah Tryz.prog 58 (p2 (.st .term) (.st .env) fun t e=>⟨some (cm t=true/\e.values.length<=1000000),none,.tup [.st .shape (fH t e).1,.agg [.int .i64 (fH t e).2.err,.int .i64 (fH t e).2.pos]],[]⟩):=
 bT (ee Tryz.func58) fun t e ht he ho=>g0 (sc uF (sc fe (sc ((wW (szT t))) sn))) a0 Tryz.func58 (K5 t e ht he (ho _ rfl))
theorem Em:ah Tryz.prog 202 (p2 .str (.int .u8) fun s c=>⟨some (c=48),none,.str (dh s),[]⟩):=
 bT (ee Tryz.func202) fun s c hs _ ho=>g0 sn ⟨[(1,fun S0=>⟨Nat,fun k=>k<=s.length/\dh s=dh (s.drop k),fun k=>[(0,.str (s.drop k))],fun _=>[],fun k=>s.length-k⟩)],[],[]⟩ Tryz.func202 (Hh s c hs (ho _ rfl))
theorem yP:ah Tryz.prog 232 (p2 .str .str fun s t=>⟨some (t=[48]),none,.str (dh s),[]⟩):=
 bT (ee Tryz.func232) fun s t _ _ ho=>g0 (sc Em sn) a0 Tryz.func232 (Bp s t (ho _ rfl))
theorem Km:ah Tryz.prog 185 (p1 (.int .i64) fun a=>.ret (.bool false)):=
 bz (ee Tryz.func185) fun a _ _=>g0 sn a0 Tryz.func185 (M0 a)
theorem uK:ah Tryz.prog 138 (p2 (.int .i64) (.int .i64) fun a b=>.ret (.int .i64 (cmpI a b))):=
 bT (ee Tryz.func138) fun a b _ _ _=>g0 (sc Km sn) a0 Tryz.func138 (Hi a b)
theorem Fw:ah Tryz.prog 41 (p1 (.lst (.int .i64)) fun l=>.ret (.int .i64 (orI l))):=
 bz (ee Tryz.func41) fun l hl _=>g0 sn ⟨[(3,fun S0=>⟨Nat,fun k=>k<=l.length/\orI l=orI (l.drop k),fun k=>[(8,.int .i64 k)],fun _=>[],fun k=>l.length-k⟩)],[],[]⟩ Tryz.func41 (Na l hl)
theorem BT:ah Tryz.prog 186 (p2 .str .str fun a b=>.ret (.int .i64 (Gm a b))):=
 bT (ee Tryz.func186) fun a b _ _ _=>g0 (sc yP (sc uK (sc (qM) (sc Fw sn)))) a0 Tryz.func186 (DT a b)
theorem En:ah Tryz.prog 139 (p2 .str .str fun a b=>.ret (.int .i64 (mR a b))):=
 bT (ee Tryz.func139) fun a b _ _ _=>g0 (sc qP (sc BT (sc (qM) sn))) a0 Tryz.func139 (Hj a b)
theorem Kn:ah Tryz.prog 89 (p2 (.st .version) (.st .version) fun a b=>⟨some (a.pre.length<=4096/\b.pre.length<=4096),none,.int .i64 (lV a b),[]⟩):=
 bT (ee Tryz.func89) fun a b _ _ ho=>g1 nn (fun _=>[]) nn nn (fun d=>Nat.beq d 17||Nat.beq d 22||Nat.beq d 27||Nat.beq d 29||Nat.beq d 43||Nat.beq d 46||Nat.beq d 63) (sc uK (sc Fw (sc En (sc (pQ) sn)))) ⟨[(12,fun S0=>⟨Nat,fun k=>k<=(splitB 46 a.pre).length/\k<=(splitB 46 b.pre).length/\kS (splitB 46 a.pre) (splitB 46 b.pre)=kS ((splitB 46 a.pre).drop k) ((splitB 46 b.pre).drop k),fun k=>[(52,.int .i64 k)],fun _=>[],fun k=>(splitB 46 a.pre).length-k⟩)],[],[]⟩ Tryz.func89 (M1 a b (ho _ rfl))
theorem HJ:ah Tryz.prog 88 (p1 (.int .i64) fun n=>.ret (.str (tO n))):=
 bz (ee Tryz.func88) fun n _ _=>g0 sn a0 Tryz.func88 (K6 n)
theorem Eo:ah Tryz.prog 49 (p1 (.lst (.st .bound)) fun l=>.ret (.int .i64 (mS l))):=
 bz (ee Tryz.func49) fun l hl _=>g0 (sc HJ (sc uG sn)) ⟨[(4,fun S0=>⟨Nat,fun k=>k<=l.length/\l.all lW=(l.drop k).all lW,fun k=>[(10,.int .i64 k)],fun _=>[],fun k=>l.length-k⟩)],[],[]⟩ Tryz.func49 (Hk l hl)
theorem Ep:ah Tryz.prog 50 (p2 (.st .version) (.lst (.st .bound)) fun v l=>⟨some (v.pre.length<=4096/\∀b∈l,b.v.pre.length<=4096),none,.bool (dQ v l),[]⟩):=
 bT (ee Tryz.func50) fun v l _ hl ho=>g0 (sc Kn sn) ⟨[(2,fun S0=>⟨Nat,fun k=>k<=l.length/\dQ v l=dQ v (l.drop k),fun k=>[(10,.int .i64 k)],fun _=>[],fun k=>l.length-k⟩)],[],[]⟩ Tryz.func50 (Hl v l hl (ho _ rfl))
theorem Er:Enters Tryz.prog 141:=ee Tryz.func141
theorem vB(n:Nat)(x:Shape)(ho:sz x<=n)(hA:ah Tryz.prog 90 (p1 (.st .shape) fun s=>⟨some (sz s<=n),none,.bool (allS aQ s),[]⟩)):ak Tryz.prog 141 [.st .shape x] [] (⟨some (sz x<=n),none,.bool (!allS aQ x),[]⟩):=
 g0 (sc (hA) sn) a0 Tryz.func141 (DU n x ho)
theorem BU(n:Nat)(hA:ah Tryz.prog 90 (p1 (.st .shape) fun s=>⟨some (sz s<=n),none,.bool (allS aQ s),[]⟩)):ah Tryz.prog 141 (p1 (.st .shape) fun x=>⟨some (sz x<=n),none,.bool (!allS aQ x),[]⟩):=
 bz Er fun x _ ho=>vB n x (ho _ rfl) hA
theorem Es:Enters Tryz.prog 187:=ee Tryz.func187
theorem vC(n:Nat)(l:List AL.Shape)(hl:Wf (.lst (.st .shape)) l)(ho:∀x∈l,sz x<=n)(hA:ah Tryz.prog 90 (p1 (.st .shape) fun s=>⟨some (sz s<=n),none,.bool (allS aQ s),[]⟩)):ak Tryz.prog 187 [.lst (.st .shape) l none,.fn 141 []] [] (⟨some (∀x∈l,sz x<=n),none,.int .i64 (bn (allS aQ) l 0),[]⟩):=
 g0 (sc (BU n hA) sn) ⟨[(2,fun S0=>⟨Nat,fun k=>k<=l.length/\bn (allS aQ) (l.drop k) k=bn (allS aQ) l 0,fun k=>[(8,.int .i64 k)],fun _=>[],fun k=>l.length-k⟩)],[],[]⟩ Tryz.func187 (DV n l hl ho)
theorem BV(n:Nat)(hA:ah Tryz.prog 90 (p1 (.st .shape) fun s=>⟨some (sz s<=n),none,.bool (allS aQ s),[]⟩)):ah Tryz.prog 187 (pf (.lst (.st .shape)) 141 fun l=>⟨some (∀x∈l,sz x<=n),none,.int .i64 (bn (allS aQ) l 0),[]⟩):=
 nd Es fun l hl ho=>vC n l hl (ho _ rfl) hA
theorem Et:Enters Tryz.prog 140:=ee Tryz.func140
theorem vD(n:Nat)(l:List AL.Shape)(hl:Wf (.lst (.st .shape)) l)(ho:∀x∈l,sz x<=n)(hA:ah Tryz.prog 90 (p1 (.st .shape) fun s=>⟨some (sz s<=n),none,.bool (allS aQ s),[]⟩)):ak Tryz.prog 140 [.lst (.st .shape) l none,.fn 141 []] [] (⟨some (∀x∈l,sz x<=n),none,.bool (!l.all (allS aQ)),[]⟩):=
 g0 (sc (BV n hA) sn) a0 Tryz.func140 (DW n l hl ho)
theorem BW(n:Nat)(hA:ah Tryz.prog 90 (p1 (.st .shape) fun s=>⟨some (sz s<=n),none,.bool (allS aQ s),[]⟩)):ah Tryz.prog 140 (pf (.lst (.st .shape)) 141 fun l=>⟨some (∀x∈l,sz x<=n),none,.bool (!l.all (allS aQ)),[]⟩):=
 nd Et fun l hl ho=>vD n l hl (ho _ rfl) hA
theorem BX:Enters Tryz.prog 90:=ee Tryz.func90
theorem BY(n:Nat)(s:AL.Shape)(ho:sz s<=n+1)(hE:ah Tryz.prog 140 (pf (.lst (.st .shape)) 141 fun l=>⟨some (∀x∈l,sz x<=n),none,.bool (!l.all (allS aQ)),[]⟩)):ak Tryz.prog 90 [.st .shape s] [] (⟨some (sz s<=n+1),none,.bool (allS aQ s),[]⟩):=
 g0 (sc (hE) sn) a0 Tryz.func90 (K7 n s ho)
theorem wX:∀n:Nat,ah Tryz.prog 90 (p1 (.st .shape) fun s=>⟨some (sz s<=n),none,.bool (allS aQ s),[]⟩)
 |0=>bz BX fun s _ ho=>absurd (fG s) (by have:=ho _ rfl;omega)
 |n+1=>bz BX fun s _ ho=>BY n s (ho _ rfl) (BW n (wX n))
theorem uL:ah Tryz.prog 53 (p1 (.lst .str) fun l=>⟨some (l.length *16<=140737488355328),none,.bool (decide l.Nodup),[]⟩):=
 bz (ee Tryz.func53) fun l _ ho=>g0 (sc nZ (sc (nQ) (sc (lT) sn))) a0 Tryz.func53 (Hm l (ho _ rfl))
theorem HK:ah Tryz.prog 51 (p1 (.st .decl) fun d=>⟨some (di d=true),none,.bool (gG d),[]⟩):=
 bz (ee Tryz.func51) fun d _ ho=>g0 (sc kj (sc jm (sc gW (sc (wX 400) (sc uF sn))))) ⟨[],[],[(1,fun S0=>⟨[(3,.bool (noS d.shape))],[]⟩),(3,fun S0=>⟨[(5,.bool (noT d.term))],[]⟩)]⟩ Tryz.func51 (K8 d (ho _ rfl))
theorem uM:ah Tryz.prog 21 (p1 (.st .modu) fun m=>⟨some (m.decls.all di=true/\m.decls.length<=1000000),none,.int .i64 (bS m),[]⟩):=
 bz (ee Tryz.func21) fun m hm ho=>g0 (sc jm (sc kj (sc uG (sc Eo (sc Ep (sc HK (sc uL sn))))))) ⟨[(5,fun S0=>⟨Nat,fun k=>k<=m.imports.length/\m.imports.all mT=(m.imports.drop k).all mT,fun k=>[(3,.lst .str (m.name::(m.imports.take k).map (·.name)) (some 34)),(38,.int .i64 k)],fun k=>[(34,.tail .str (m.name::(m.imports.take k).map (·.name)).length)],fun k=>m.imports.length-k⟩),(13,fun S0=>⟨Nat,fun k=>k<=m.decls.length/\m.decls.all lZ=(m.decls.drop k).all lZ,fun k=>[(6,.lst .str (l9++(m.decls.take k).map (·.name)) (some 77)),(81,.int .i64 k)],fun k=>[(77,.tail .str (l9++(m.decls.take k).map (·.name)).length)],fun k=>m.decls.length-k⟩),(20,fun S0=>⟨Nat,fun k=>k<=m.exports.length/\m.exports.all ma=(m.exports.drop k).all ma,fun k=>[(102,.int .i64 k)],fun _=>[],fun k=>m.exports.length-k⟩)],[],[]⟩ Tryz.func21 (Hn m hm (ho _ rfl))
theorem vE(l:List Depd)(N:Nat)(hl:Wf (.lst (.st .dep)) l)(hN:∀d∈l,∀x∈d.items,sz x.shape<=N) :ak Tryz.prog 7 [.lst (.st .dep) l none] [] (.ret (.bool (iD l 0 0))):=
 g0 (sc (Bv N) sn) ⟨[(3,fun S0=>⟨Nat×Int,fun x=>x.1<=l.length/\0<=x.2/\x.2<=4000/\iD (l.drop x.1) x.2 x.1=iD l 0 0,fun x=>[(3,.int .i64 x.2),(4,.int .i64 x.1)],fun _=>[],fun x=>l.length-x.1⟩),(8,fun S0=>qh S0 4 fun j=>⟨Nat×Int,fun x=>x.1<=(l.getD j.toNat (dfl (.st .dep))).items.length/\0<=x.2/\x.2<=4000/\Dv l j.toNat x.1 x.2=iD l 0 0,fun x=>[(3,.int .i64 x.2),(5,.int .i64 x.1)],fun _=>[],fun x=>(l.getD j.toNat (dfl (.st .dep))).items.length-x.1⟩)],[],[]⟩ Tryz.func7 (DX l N hl hN)
theorem BZ:ah Tryz.prog 7 (p1 (.lst (.st .dep)) fun l=>.ret (.bool (iD l 0 0))):=
 bz (ee Tryz.func7) fun l hl _=>vE l (szD l) hl (Jd l)
theorem C1(a b:List AL.Item)(N:Nat)(ha:Wf (.lst (.st .item)) a)(hb:Wf (.lst (.st .item)) b)(hN:∀x∈a,sz x.shape<=N) :ak Tryz.prog 10 [.lst (.st .item) a none,.lst (.st .item) b none] [] (.ret (.bool (ke a b))):=
 g0 (sc (E6 N) sn) ⟨[(4,fun S0=>⟨Nat,fun k=>k<=a.length/\a.length=b.length/\ke a b=ke (a.drop k) (b.drop k),fun k=>[(5,.int .i64 k)],fun _=>[],fun k=>a.length-k⟩)],[],[]⟩ Tryz.func10 (K9 a b N ha hb hN)
theorem HL:ah Tryz.prog 10 (p2 (.lst (.st .item)) (.lst (.st .item)) fun a b=>.ret (.bool (ke a b))):=
 bT (ee Tryz.func10) fun a b ha hb _=>C1 a b (szI a) ha hb (u9 a)
theorem vF(se:Str)(ty va:List Bndg)(o n:Str)(x:Shape)(hl:va.length<=1000000) :ak Tryz.prog 57 [.ptr 900 0,.str o,.str n,.st .shape x] (sc1 se ty va) (⟨some (va.length<=1000000),none,.tup [],[(900,.box (.agg [.str se,.lst (.st .bind) ty (some 901),.lst (.st .bind) (va++[AL.Bndg.mk o n x]) (some 902),.nils])),(902,.tail (.st .bind) (va.length+1))]⟩):=
 g0 sn a0 Tryz.func57 (DY se ty va o n x hl)
theorem qQ:ah Tryz.prog 57 (LB (fun se ty va o n x=>⟨some (va.length<=1000000),none,.tup [],[(900,.box (.agg [.str se,.lst (.st .bind) ty (some 901),.lst (.st .bind) (va++[AL.Bndg.mk o n x]) (some 902),.nils])),(902,.tail (.st .bind) (va.length+1))]⟩) fun e o n x=>⟨some (e.values.length<=1000000),none,.tup [],[(900,.box (.agg [.str e.self,.lst (.st .bind) e.types none,.lst (.st .bind) (e.values++[AL.Bndg.mk o n x]) (some 901),.lst (.st .bind) e.own (some 902)])),(901,.tail (.st .bind) (e.values.length+1))]⟩):=
 LC (ee Tryz.func57) (fun se ty va o n x ho=>vF se ty va o n x (ho _ rfl)) fun e o n x ho=>g0 sn a0 Tryz.func57 (DZ e o n x (ho _ rfl))
theorem Ko:ah Tryz.prog 61 (N5 fun e n x=>⟨some (e.own.length<=1000000),none,.tup [],[(900,.box (.agg [.str e.self,.lst (.st .bind) e.types none,.lst (.st .bind) e.values (some 901),.lst (.st .bind) (e.own++[AL.Bndg.mk [] n x]) (some 902)])),(902,.tail (.st .bind) (e.own.length+1))]⟩):=
 LD (ee Tryz.func61) fun e n x ho=>g0 sn a0 Tryz.func61 (M3 e n x (ho _ rfl))
theorem uN:Enters Tryz.prog 97:=ee Tryz.func97
theorem vG(n:Nat)(s:AL.Shape)(hs:Wf (.st .shape) s)(ho:sz s<=n+1/\allS nmU s=true)(hA:ah Tryz.prog 97 (p1 (.st .shape) fun s=>⟨some (sz s<=n/\allS nmU s=true),none,.st .shape s,[]⟩)):ak Tryz.prog 97 [.st .shape s] [] (⟨some (sz s<=n+1/\allS nmU s=true),none,.st .shape s,[]⟩):=
 g0 (sc (ki) (sc (hA) sn)) ⟨[(4,fun S0=>⟨Nat,fun k=>k<=s.parts.length,fun k=>[(3,.lst (.st .shape) (s.parts.take k) (some 701)),(13,.int .i64 k)],fun k=>[(701,.tail (.st .shape) (s.parts.take k).length)],fun k=>s.parts.length-k⟩)],[],[]⟩ Tryz.func97 (E0 n s hs ho)
theorem qR:∀n:Nat,ah Tryz.prog 97 (p1 (.st .shape) fun s=>⟨some (sz s<=n/\allS nmU s=true),none,.st .shape s,[]⟩)
 |0=>bz uN fun s hs ho=>absurd (fG s) (by have:=(ho _ rfl).1;omega)
 |n+1=>bz uN fun s hs ho=>vG n s hs (ho _ rfl) (qR n)
theorem yQ(o:Str)(l:List AL.Item)(N:Nat)(hl:Wf (.lst (.st .item)) l)(hN:∀x∈l,sz x.shape<=N)(ho:(l.length<=1048576/\∀x∈l,allS nmU x.shape=true)) :ak Tryz.prog 55 [.str o,.lst (.st .item) l none] [] (⟨some (l.length<=1048576/\∀x∈l,allS nmU x.shape=true),none,.lst (.st .bind) (aP o l) none,[]⟩):=
 g0 (sc (qR N) sn) ⟨[(3,fun S0=>⟨Nat,fun k=>k<=l.length,fun k=>[(5,.lst (.st .bind) (aP o (l.take k)) (some 701)),(10,.int .i64 k)],fun k=>[(701,.tail (.st .bind) (aP o (l.take k)).length)],fun k=>l.length-k⟩)],[],[]⟩ Tryz.func55 (Ho o l N hl hN ho)
theorem Eu:ah Tryz.prog 55 (p2 .str (.lst (.st .item)) fun o l=>⟨some (l.length<=1048576/\∀x∈l,allS nmU x.shape=true),none,.lst (.st .bind) (aP o l) none,[]⟩):=
 bT (ee Tryz.func55) fun o l _ hl ho=>yQ o l (szI l) hl (u9 l) (ho _ rfl)
theorem yR:ah Tryz.prog 60 (p3 (.lst (.st .bind)) .str (.st .decl) fun l se d=>⟨some (l.length<=1000000/\(d.kind=1∨d.kind=2)/\(aO d.shape l).2=0),none,.tup [.lst (.st .bind) (l++[fT d.name (if d.kind=2 then ec se d.name else(aO d.shape l).1)]) none,.int .i64 0],[]⟩):=
 F0 (ee Tryz.func60) fun l se d hl _ hd ho=>g0 (sc uH (sc (mh) sn)) a0 Tryz.func60 (Bq l se d hl hd (ho _ rfl))
theorem rn(c:Cst)(d:Dcl)(r:DcC)(hd:Wf (.st .decl) d)(ho:((d.kind=1∨d.kind=2∨d.kind=3)/\(d.kind=3->cm d.term=true)/\c.e.types.length<=1000000/\c.e.values.length<=1000000/\c.e.own.length<=1000000))(hr:kY d c=r) :ak Tryz.prog 24 [.ptr 900 0,.st .decl d] (ck2 c) (⟨some ((d.kind=1∨d.kind=2∨d.kind=3)/\(d.kind=3->cm d.term=true)/\c.e.types.length<=1000000/\c.e.values.length<=1000000/\c.e.own.length<=1000000),none,.st .fault r.f,ck2 r.c⟩):=
 g1 nn (fun f=>if Nat.beq f 57||Nat.beq f 61 then[some 1004]else[]) nn nn nn (sc (HI) (sc (mh) (sc qQ (sc yR (sc Ko sn))))) a0 Tryz.func24 (yu c d r hd ho hr)
theorem vH:ah Tryz.prog 24 (JF fun c d=>⟨some ((d.kind=1∨d.kind=2∨d.kind=3)/\(d.kind=3->cm d.term=true)/\c.e.types.length<=1000000/\c.e.values.length<=1000000/\c.e.own.length<=1000000),none,.st .fault (kY d c).f,ck2 (kY d c).c⟩):=
 JG (ee Tryz.func24) fun c d hd ho=>rn c d _ hd (ho _ rfl) rfl
theorem HM:ah Tryz.prog 56 (p1 (.lst (.st .item)) fun l=>⟨none,none,.fn 98 [.ptr 1 0],[(1,.box (.lst (.st .item) l none))]⟩):=
 bz (ee Tryz.func56) fun l _ _=>g0 sn a0 Tryz.func56 (Ka l)
end Go.AL.Seat
end
noncomputable section
namespace Go.AL.Seat
open Go Go.AL Go.Proofs Go.Shelf Go.Pd
variable [Tabs]
def Nb(t:Str):Bool:=!t.isEmpty&&decide (t.length<=15)&&t.all fun c=>decide (48<=c.toNat)&&decide (c.toNat<=57)
theorem M6{t:Str}(h:Nb t=true):qy t:=by unfold Nb at h;simp only[NT,O3,NW,O5]at h;exact⟨fun e=>(by rw[e]at h;exact absurd h.1.1 (by decide)),h.1.2,h.2⟩
abbrev fbz(t:List (Nat×TR))(f:Func)(k:Nat):FB:=mb t f k [] (fun _=>false) (fun _=>false) (fun _=>false) false
def qS:List (Nat×Pat):=
 [(201,p1 .str fun s=>.ret (.tup [.int .i32 ((kQ s).1:Int),.int .i64 ((kQ s).2:Int)])),
  (211,p2 .str (.int .u8) fun a c=>.ret (.int .i64 (IJ a c))),
  (161,q2 .str .str (fun _ b=>decide (b=r6)) fun a _=>.str (nj a)),
  (209,q2 .str .str (fun a b=>decide (b=[45])&&decide (a.length<4294967281)) fun a _=>.tup [.str (jK a),.str (nP a),.bool (pO a)]),
  (86,q2 .str .str (fun a b=>decide (b=[46])&&decide (a.length<4294967281)) fun a _=>.lst .str (splitB 46 a) none),
  (213,q2 .str .str (fun _ b=>decide (b.length=1)) fun a b=>.bool (decide (b.getD 0 0∈a))),
  (210,q1 .str Nb fun t=>.tup [.int .i64 (nh t),.nilif]),
  (47,p1 .str fun s=>.ret (.bool (aX s))),(52,p1 .str fun s=>.ret (.bool (eA s)))]
theorem p8[SeatLaid]:bH Tryz.prog (gE qS):=
 sc tL (sc vn (sc (Fm Ag fun _ _ h=>Xo h)
  (sc (Fm La fun _ _ h=>by rw[NT]at h;exact⟨Xo h.1,Xo h.2⟩)
  (sc (Fm pQ fun _ _ h=>by rw[NT]at h;exact⟨Xo h.1,Xo h.2⟩)
  (sc (Fm ye fun _ _ h=>Xo h) (sc (Ju IS fun _ h=>M6 h)
  (sc jm (sc kj sn))))))))
end Go.AL.Seat
end
noncomputable section
namespace Go.AL.Seat
open Go Go.AL Go.Proofs
variable [Tabs]
def b9:List (Nat×TR):=[(3,r2),(9,r9),(47,r47),(24,r24),(63,r63),(300,GI),(45,r45),(4,r4),(38,r38),(97,r97),(65,r65),(5,r5),(26,r26),(32,r2),(43,r43),(41,r41),(31,r31),(61,r61),(94,r94),(49,r49),(59,r59),(54,r54),(100,r99),(22,r22),(39,r39),(155,Lv),(91,r91),(23,r23),(34,r34),(191,GH),(288,N2),(20,r20),(219,r1),(50,r1),(113,r1),(299,GI),(190,GH),(58,r58),(37,r37),(40,r40),(62,r62),(64,r64),(99,r99),(96,r96),(93,r93),(42,r42),(46,r46),(48,r48),(33,r33),(25,r25)]
theorem Kp:aS Tryz.prog b9:=by
 unfold b9
 repeat (first|exact aS.nil|refine aS.cons tk ?_)
end Go.AL.Seat
end
noncomputable section
namespace Go.AL.Seat
open Go Go.AL Go.Proofs
set_option maxRecDepth 1000000
variable [Tabs]
def Nc(f:Nat):List (Option Nat):=if Nat.beq f 121||Nat.beq f 122 then[some 2]else if Nat.beq f 68||(Nat.beq f 69||(Nat.beq f 73||(Nat.beq f 74||(Nat.beq f 75||Nat.beq f 126))))then[some 4]else if Nat.beq f 57||Nat.beq f 61 then[some 1004]else[]
def Nd(f:Nat):Bool:=false
def uO:List (Nat×FB):=(14,fbz b9 Tryz.f14 63)::(15,fbz b9 Tryz.f15 31023)::(16,fbz b9 Tryz.f16 16838839)::(33,fbz b9 Tryz.f33 274877939399)::(34,fbz b9 Tryz.f34 33571891)::(17,fbz b9 Tryz.f17 4319327)::(35,fbz b9 Tryz.f35 33571891)::(21,fbz b9 Tryz.f21 340292770534375364823452943443732465007)::(36,fbz b9 Tryz.f36 503324715)::(37,fbz b9 Tryz.f37 4125181903019)::(39,fbz b9 Tryz.f39 7)::(40,mb b9 Tryz.f40 31 [] (fun _=>false) (fun _=>false) (fun d=>Nat.beq d 9||Nat.beq d 14||Nat.beq d 16) false)::(43,fbz b9 Tryz.f43 27)::(44,fbz b9 Tryz.f44 30767)::(46,fbz b9 Tryz.f46 15)::(45,fbz b9 Tryz.f45 19)::(48,fbz b9 Tryz.f48 9316337836119)::(49,fbz b9 Tryz.f49 8392597)::(50,fbz b9 Tryz.f50 659706875863)::(51,fbz b9 Tryz.f51 633826206808479411720232632383)::(53,fbz b9 Tryz.f53 13)::(78,fbz b9 Tryz.f78 8363)::(42,fbz b9 Tryz.f42 604275)::(41,fbz b9 Tryz.f41 17389)::(80,fbz b9 Tryz.f80 66491)::(82,fbz b9 Tryz.f82 66483)::(87,fbz b9 Tryz.f87 18014398524686365)::(88,fbz b9 Tryz.f88 5469)::(89,mb b9 Tryz.f89 36909250894291276799 [] (fun _=>false) (fun _=>false) (fun d=>Nat.beq d 17||Nat.beq d 22||Nat.beq d 27||Nat.beq d 29||Nat.beq d 43||Nat.beq d 46||Nat.beq d 63) false)::(29,fbz b9 Tryz.f29 299063)::(90,fbz b9 Tryz.f90 7)::(91,fbz b9 Tryz.f91 74783)::(94,fbz b9 Tryz.f94 7)::(79,fbz b9 Tryz.f79 5)::(137,fbz b9 Tryz.f137 5)::(138,fbz b9 Tryz.f138 604275)::(139,fbz b9 Tryz.f139 2623603)::(65,fbz b9 Tryz.f65 31)::(30,fbz b9 Tryz.f30 2159703)::(66,fbz b9 Tryz.f66 10141204803006463002229839257615)::(140,fbz b9 Tryz.f140 19)::(141,fbz b9 Tryz.f141 7)::(142,fbz b9 Tryz.f142 2223863)::(143,fbz b9 Tryz.f143 7)::(146,fbz b9 Tryz.f146 16883)::(185,fbz b9 Tryz.f185 5)::(186,fbz b9 Tryz.f186 19)::(116,fbz b9 Tryz.f116 33071)::(118,fbz b9 Tryz.f118 17)::(117,fbz b9 Tryz.f117 246479)::(119,fbz b9 Tryz.f119 4444215)::(120,fbz b9 Tryz.f120 5)::(187,fbz b9 Tryz.f187 66483)::(188,fbz b9 Tryz.f188 3537148372723500476506894142080440715070649430595550180525943565456506895)::(189,fbz b9 Tryz.f189 27)::(233,fbz b9 Tryz.f233 7)::(234,fbz b9 Tryz.f234 27)::(235,fbz b9 Tryz.f235 7)::(236,fbz b9 Tryz.f236 2098133)::(237,fbz b9 Tryz.f237 13)::(238,fbz b9 Tryz.f238 27)::(240,fbz b9 Tryz.f240 15)::(239,fbz b9 Tryz.f239 19)::(272,fbz b9 Tryz.f272 15)::(273,fbz b9 Tryz.f273 7)::(276,fbz b9 Tryz.f276 11)::(275,fbz b9 Tryz.f275 19)::(277,fbz b9 Tryz.f277 66483)::(302,fbz b9 Tryz.f302 66483)::[]
theorem C2:iP Tryz.prog uO:=by
 unfold uO
 repeat (first|exact iP.nil|refine iP.cons (by kernel_rfl) (by kernel_rfl) ?_)
end Go.AL.Seat
end
noncomputable section
namespace Go.AL.Seat
open Go Go.AL Go.Proofs
variable [Tabs]
def ax:List (Nat×TR):=[(3,r2),(9,r9),(63,r63),(47,r47),(149,r149),(24,r24),(253,r253),(248,r248),(5,r5),(300,GI),(38,r38),(34,r34),(146,Ls),(45,r45),(4,r4),(198,Lu),(61,r61),(196,Lt),(32,r2),(251,r251),(139,r139),(26,r26),(155,Lv),(194,r194),(144,GG),(65,r65),(39,r39),(41,r41),(1,r1),(59,r59),(22,r22),(288,N2),(247,r247),(147,r1),(23,r23),(283,r283),(21,r21),(191,GH),(219,r1),(50,r1),(113,r1),(20,r20),(190,GH),(299,GI),(250,GG),(252,r252),(58,r58),(46,r46),(62,r62),(64,r64),(37,r37),(40,r40),(197,Lu),(195,Lt),(148,r148),(145,Ls),(143,GG),(33,r33),(25,r25)]
theorem C3:aS Tryz.prog ax:=by
 unfold ax
 repeat (first|exact aS.nil|refine aS.cons tk ?_)
end Go.AL.Seat
end
noncomputable section
namespace Go.AL.Seat
open Go Go.AL Go.Proofs
set_option maxRecDepth 1000000
variable [Tabs]
def Kq(f:Nat):List (Option Nat):=if Nat.beq f 121||Nat.beq f 122 then[some 2]else if Nat.beq f 68||(Nat.beq f 69||(Nat.beq f 73||(Nat.beq f 74||(Nat.beq f 75||Nat.beq f 126))))then[some 4]else if Nat.beq f 57||Nat.beq f 61 then[some 1004]else[]
def Kr(f:Nat):Bool:=false
def p9:List (Nat×FB):=(32,fbz ax Tryz.f32 288511851128455421)::(67,fbz ax Tryz.f67 77975715369647181664879229)::(68,fbz ax Tryz.f68 259)::(69,fbz ax Tryz.f69 65587)::(70,fbz ax Tryz.f70 19380592045697041145266237)::(71,fbz ax Tryz.f71 38685626517024445242019965)::(72,fbz ax Tryz.f72 1180591655902890688517)::(73,fbz ax Tryz.f73 5)::(74,fbz ax Tryz.f74 263)::(75,fbz ax Tryz.f75 5)::(121,fbz ax Tryz.f121 65555)::(122,fbz ax Tryz.f122 4294967347)::(123,fbz ax Tryz.f123 5)::(124,fbz ax Tryz.f124 8388935)::(125,mb ax Tryz.f125 87112288527988523651034566703108870643455 [] (fun _=>false) (fun _=>false) (fun d=>Nat.beq d 21) false)::(126,fbz ax Tryz.f126 67108915)::(127,fbz ax Tryz.f127 19)::(128,fbz ax Tryz.f128 8388807)::(129,fbz ax Tryz.f129 13)::(130,fbz ax Tryz.f130 2361185498182472704253)::(50,fbz ax Tryz.f50 659706875863)::(131,fbz ax Tryz.f131 9016029707634675)::(132,fbz ax Tryz.f132 134250995)::(156,fbz ax Tryz.f156 549890048253)::(157,fbz ax Tryz.f157 71)::(158,fbz ax Tryz.f158 79)::(84,fbz ax Tryz.f84 5)::(92,fbz ax Tryz.f92 5)::(135,fbz ax Tryz.f135 5)::(85,fbz ax Tryz.f85 29)::(159,fbz ax Tryz.f159 5)::(160,fbz ax Tryz.f160 5)::(162,fbz ax Tryz.f162 151115799509488183025661)::(163,fbz ax Tryz.f163 618970019647202533975261693)::(164,fbz ax Tryz.f164 29)::(165,fbz ax Tryz.f165 19)::(166,fbz ax Tryz.f166 66483)::(167,fbz ax Tryz.f167 4195343)::(89,mb ax Tryz.f89 36909250894291276799 [] (fun _=>false) (fun _=>false) (fun d=>Nat.beq d 17||Nat.beq d 22||Nat.beq d 27||Nat.beq d 29||Nat.beq d 43||Nat.beq d 46||Nat.beq d 63) false)::(168,fbz ax Tryz.f168 33816627)::(169,fbz ax Tryz.f169 5)::(170,fbz ax Tryz.f170 268439557)::(171,fbz ax Tryz.f171 81129648086015544455969055506495)::(91,fbz ax Tryz.f91 74783)::(172,fbz ax Tryz.f172 263)::(173,fbz ax Tryz.f173 2228285)::(137,fbz ax Tryz.f137 5)::(48,fbz ax Tryz.f48 9316337836119)::(212,fbz ax Tryz.f212 5)::(214,fbz ax Tryz.f214 66483)::(138,fbz ax Tryz.f138 604275)::(41,fbz ax Tryz.f41 17389)::(139,fbz ax Tryz.f139 2623603)::(215,mb ax Tryz.f215 3 [] (fun d=>Nat.beq d 8) (fun _=>false) (fun _=>false) false)::(216,mb ax Tryz.f216 7 [] (fun d=>Nat.beq d 15) (fun _=>false) (fun _=>false) false)::(218,fbz ax Tryz.f218 275)::(217,fbz ax Tryz.f217 131)::(220,fbz ax Tryz.f220 7)::(219,fbz ax Tryz.f219 271375)::(222,fbz ax Tryz.f222 32819)::(223,fbz ax Tryz.f223 15)::(224,fbz ax Tryz.f224 17180524607)::(142,fbz ax Tryz.f142 2223863)::(143,fbz ax Tryz.f143 7)::(225,mb ax Tryz.f225 324677087359430077278579446644799 [] (fun d=>Nat.beq d 129) (fun _=>false) (fun _=>false) false)::(29,fbz ax Tryz.f29 299063)::(87,fbz ax Tryz.f87 18014398524686365)::(185,fbz ax Tryz.f185 5)::(186,fbz ax Tryz.f186 19)::(261,fbz ax Tryz.f261 51)::(221,fbz ax Tryz.f221 65587)::(262,fbz ax Tryz.f262 23945973599159813139139346461134680183357916012085311)::(263,mb ax Tryz.f263 3 [] (fun d=>Nat.beq d 8) (fun _=>false) (fun _=>false) false)::(188,fbz ax Tryz.f188 3537148372723500476506894142080440715070649430595550180525943565456506895)::(189,fbz ax Tryz.f189 27)::(264,mb ax Tryz.f264 7 [] (fun d=>Nat.beq d 21) (fun _=>false) (fun _=>false) false)::(266,fbz ax Tryz.f266 149971)::(267,mb ax Tryz.f267 3 [] (fun d=>Nat.beq d 8) (fun _=>false) (fun _=>false) false)::(65,fbz ax Tryz.f65 31)::(30,fbz ax Tryz.f30 2159703)::(66,fbz ax Tryz.f66 10141204803006463002229839257615)::(298,mb ax Tryz.f298 3 [] (fun d=>Nat.beq d 23) (fun _=>false) (fun _=>false) false)::(299,fbz ax Tryz.f299 13)::(233,fbz ax Tryz.f233 7)::(234,fbz ax Tryz.f234 27)::(235,fbz ax Tryz.f235 7)::(236,fbz ax Tryz.f236 2098133)::(237,fbz ax Tryz.f237 13)::(238,fbz ax Tryz.f238 27)::(240,fbz ax Tryz.f240 15)::(239,fbz ax Tryz.f239 19)::(265,fbz ax Tryz.f265 5)::(116,fbz ax Tryz.f116 33071)::(118,fbz ax Tryz.f118 17)::(117,fbz ax Tryz.f117 246479)::(119,fbz ax Tryz.f119 4444215)::(120,fbz ax Tryz.f120 5)::(272,fbz ax Tryz.f272 15)::(140,fbz ax Tryz.f140 19)::(273,fbz ax Tryz.f273 7)::(94,fbz ax Tryz.f94 7)::(276,fbz ax Tryz.f276 11)::(275,fbz ax Tryz.f275 19)::(277,fbz ax Tryz.f277 66483)::(187,fbz ax Tryz.f187 66483)::(146,fbz ax Tryz.f146 16883)::(302,fbz ax Tryz.f302 66483)::[]
theorem qU:iP Tryz.prog p9:=by
 unfold p9
 repeat (first|exact iP.nil|refine iP.cons (by kernel_rfl) (by kernel_rfl) ?_)
end Go.AL.Seat
end
noncomputable section
namespace Go.AL.Seat
open Go Go.AL Go.Proofs Go.Pd
set_option maxRecDepth 1000000
def awS:Str:=[109,111,100,117,108,101,32,112,32,105,109,112,111,114,116,32,113,32,112,105,110,32,49,46,48,46,48,32,114,97,110,103,101,32,42,32,105,109,112,111,114,116,32,122,32,112,105,110,32,49,46,48,46,48,32,114,97,110,103,101,32,42,32,108,101,116,32,102,32,61,32,113,47,103,40,49,41,32,101,120,112,111,114,116,32,40,102,41]
def awL:AV:=(.tup [(.lst (.st .token) [⟨5,[109,111,100,117,108,101],0⟩,⟨1,[112],7⟩,⟨5,[105,109,112,111,114,116],9⟩,⟨1,[113],16⟩,⟨5,[112,105,110],18⟩,⟨7,[49,46,48,46,48],22⟩,⟨5,[114,97,110,103,101],28⟩,⟨6,[42],34⟩,⟨5,[105,109,112,111,114,116],36⟩,⟨1,[122],43⟩,⟨5,[112,105,110],45⟩,⟨7,[49,46,48,46,48],49⟩,⟨5,[114,97,110,103,101],55⟩,⟨6,[42],61⟩,⟨5,[108,101,116],63⟩,⟨1,[102],67⟩,⟨6,[61],69⟩,⟨1,[113],71⟩,⟨6,[47],72⟩,⟨1,[103],73⟩,⟨6,[40],74⟩,⟨3,[49],75⟩,⟨6,[41],76⟩,⟨5,[101,120,112,111,114,116],78⟩,⟨6,[40],85⟩,⟨1,[102],86⟩,⟨6,[41],87⟩,⟨0,[],88⟩] none),(.agg [(.int .i64 0),(.int .i64 0)])])
def awV:AV:=(.tup [(.agg [(.str [112]),(.lst (.st .imp) [⟨[113],⟨1,0,0,[]⟩,[],9⟩,⟨[122],⟨1,0,0,[]⟩,[],36⟩] none),(.lst (.st .decl) [⟨3,[102],⟨0,[],[],[],[]⟩,⟨7,[],[],0,[],[],[],[⟨5,[113],[103],0,[],[],[],[],71⟩,⟨1,[],[],1,[],[],[],[],75⟩],71⟩,63⟩] none),(.lst .str [[102]] none),(.int .i64 78)]),(.agg [(.int .i64 0),(.int .i64 0)])])
variable [Tabs] [SeatLaid]
theorem NL:ak Tryz.prog 67 [.str awS] [] (.ret awL):=mM (n:=100) mixed C3 p8 qU (by kernel_rfl:AO ax p9 Kr Kq 5000 (gE qS) 100 67 [.str awS] []=some ⟨none,none,awL,[]⟩)
def Ks:List (Nat×Pat):=(67,Fo [.str awS] awL)::qS
theorem HN:bH Tryz.prog (gE Ks):=sc (Fp (ee Tryz.func67) NL) p8
theorem NM:ak Tryz.prog 32 [.str awS] [] (.ret awV):=mM (n:=100) mixed C3 HN qU (by kernel_rfl:AO ax p9 Kr Kq 5000 (gE Ks) 100 32 [.str awS] []=some ⟨none,none,awV,[]⟩)
end Go.AL.Seat
end
noncomputable section
namespace Go.AL
variable [Tabs]
section
variable {P:Program} {ops:Array Oper} {Q:Exit->Act->World->Prop}
theorem Kt{l n:Nat}{f:FuncId}{args:Array Value}{w:World}{R:Ending->World->Prop}(h:CallsIn Fence.wide n P f args w R):CallsIn (Fence.wide.inRound l) n P f args w R:=h
theorem M7{l n i:Nat}{K K':Act->World->Prop}{a:Act}{w:World}(hd:∀o∈ops.toList,∀c,o.op≠.defer c)(hL:¬LetsOut Q)(hK:∀a w,K a w->K' a w)
 (h:wpOp P ops Q i K a w):wpOpIn (Fence.wide.inRound l) n P ops Q i K' a w:=by
 unfold wpOp at h;unfold wpOpIn
 cases ho:ops[i]? with
 |none=>simp only[ho]at h⊢;exact hK _ _ h
 |some o=>
  have hm:o∈ops.toList:=Oi (by rw[Ob];exact ho);simp only[ho]at h⊢;split
  ·rename_i hw;simp only[hw,OV]at h;rcases h with h|h
   case inr=>exact absurd h.2 hL
   refine⟨fun _ _=>trivial,?_⟩;rw[Oper.semAt_eq _ _ _ (hd o hm)];unfold Oper.wp at h;have hn:∀q:Prop,((Fence.wide.inRound l).depth.isSome=true->q):=fun q h=>by cases h
   generalize (execOp a.eval o).run P w=r at h⊢
   cases r with
   |ok x w'=>
    cases x<;>simp only[Oper.upon,Oper.uponIn]at h⊢<;>
     first
      |exact hK _ _ h
      |exact⟨hn _,Kt ((callsIn_wide.2 h).mono fun e w'' he=>by cases e<;>first|exact hK _ _ he|exact he)⟩
      |exact⟨hn _,fun c cs hr=>let ⟨v,w',q,st⟩:=h c cs;⟨v,w',hK _ _ q,stepsIn_wide.2 st⟩⟩
      |exact h.elim
   |halt x w'=>cases x<;>simp only[Oper.upon,Oper.uponIn]at h⊢<;>exact h
  ·rename_i hw;simp only[hw]at h;exact⟨fun _ _=>trivial,hK _ _ h⟩
theorem C4{l n:Nat}(hd:∀o∈ops.toList,∀c,o.op≠.defer c)(hL:¬LetsOut Q):∀(fuel:Nat)(listed:Array Bool)(a:Act)(w:World),
  wpAny P .any ops Q fuel listed a w->wpAnyIn (Fence.wide.inRound l) n P .any ops Q fuel listed a w
 |0,listed,a,w,h=>h
 |fuel+1,listed,a,w,h=>⟨h.1,fun i hi=>M7 hd hL (fun a w=>C4 hd hL fuel _ a w) (h.2 i hi)⟩
end
section
variable {P:Program} {C:Cfg} {F:Fr} {ops:Array Oper}
theorem M8{F:Fr}{Q:SX->St->Prop}:¬LetsOut (QL F Q):=fun⟨a,w,x,s,Ω,h,_⟩=>by
 cases x<;>first|(obtain⟨v,h,_⟩:=h;cases h)|cases h
theorem HO(hm:P.follows .mixedOrders=true)(hT:aS P C.tbl)(hS:bH P C.spec)(keep:List Nat){id l n:Nat}{s:St}{Q:SX->St->Prop}{a:Act}{Ω:Om}
 (hdst:∀(o:Oper),o∈ops.toList->∀d,o.dst=some d->d<F.n)(hd:∀o∈ops.toList,∀c,o.op≠.defer c)
 (h:kq C keep ops true s Q)(hh:Holds F s.abs a Ω):(Code.region id ops true).wpIn (Fence.wide.inRound l) n P (QL F Q) a Ω.w:=by
 refine wpIn_region_any hm (C4 hd M8 _ _ _ _ ?_);unfold kq at h
 have key:∀s' fs,(fm (trim keep s') fun s'=>if true=true then(if dA ops.toList fs=true then Q .normal s' else False)else Q .normal s')->
   dA ops.toList fs=true/\Q .normal (trim keep s'):=by
  intro s' fs hk;simp only[cN,OV]at hk;rcases PX (dA ops.toList fs=true)with k|k
  ·rw[NY k]at hk;exact⟨k,hk⟩
  ·rw[NU k]at hk;exact hk.elim
 refine td hT hS hdst h (fun s' fs hk=>let ⟨s2,h2⟩:=mF _ hk;(key s2 fs h2).1) hh (fun s' fs a' Ω' hk h'=>
   let ⟨s2,Ω2,g1,g2,g3⟩:=nF h' hk
   ⟨.normal,trim keep s2,Ω2,rfl,g1,g2.trim keep,(key s2 fs g3).2⟩)
  (fun pv s' a' Ω' v hk h' hv=>?_)
 simp only[cN,forceV_eq]at hk;exact⟨.pan pv,s',Ω',⟨v,rfl,hv⟩,rfl,h',hk⟩
end
theorem bj.blkW{Ω:Om}{own:Nat->Nat->Prop}{id:Nat}{ob:SObj}(hs:bj Ω own id ob){b o:Nat}{c:CObj}(hc:Ω.e id=some c)(hb:occ c b o):b<Ω.w.heap.size:=by
  cases ob with
  |box x=>
   obtain⟨b',off,he,hh⟩:=hs;rw[he]at hc;simp only[Xs]at hc;subst hc;obtain⟨rfl,h1,h2⟩:=hb;have hj:o-off<(ae x).length:=by omega
   obtain⟨_,_,_,v,hv,_⟩:=hh (o-off) _ (NS hj);exact aD hv
  |tail τ n=>obtain⟨base,cap,he,_,_,_,hb'⟩:=hs;rw[he]at hc;simp only[Xs]at hc;subst hc;obtain⟨_,vs,ty,fz,hh,_⟩:=hb' b hb;exact aJ hh
  |map κ τ m=>obtain⟨r,he,_,es,clock,hh,_⟩:=hs;rw[he]at hc;simp only[Xs]at hc;subst hc;have:b=r:=hb;subst this;exact aJ hh
  |bld t u l=>obtain⟨b0,g,he,_,hh⟩:=hs;rw[he]at hc;simp only[Xs]at hc;subst hc;exact hh.lt hb
  |tailp τ n x=>
   obtain⟨b0,cap,he,_,_,_,⟨vs,ty,fz,hh,_⟩,_⟩:=hs;rw[he]at hc;simp only[Xs]at hc;subst hc;have:b0=b:=by simpa[occ]using hb
   subst this;exact aJ hh
  |grow τ n xs=>obtain⟨base,cap,he,_,_,_,hb'⟩:=hs;rw[he]at hc;simp only[Xs]at hc;subst hc;obtain⟨_,⟨vs,ty,fz,hh,_⟩,_⟩:=hb' b hb;exact aJ hh
theorem After.owns{w w1:World}{pub bY:Nat->Nat->Prop}{e e1:Nat->Option CObj}{B:Nat->Option SObj}(h:After w pub e B w1 bY e1){b o:Nat}(ho:gL e1 b o):w.heap.size<=b∨gL e b o:=by
 obtain⟨id,c,hc,hoc⟩:=ho
 cases hB:B id with
 |none=>rw[h.dom id hB]at hc;cases hc
 |some ob=>exact(h.slots id ob hB).owns hc hoc
theorem After.trans{w w1 w2:World}{pub bY pub2:Nat->Nat->Prop}{e e1 e2:Nat->Option CObj}{B B':Nat->Option SObj}(h:After w pub e B w1 bY e1)(k:After w1 bY e1 B' w2 pub2 e2) :
  After w pub e B' w2 pub2 e2:=by
 have hs:=h.size
 have no:∀{b o},b<w.heap.size->¬gL e b o->¬gL e1 b o:=fun hb hn ho=>by
  rcases h.owns ho with q|q
  ·omega
  ·exact hn q
 have up:∀{b o},(w1.heap.size<=b∨gL e1 b o)->w.heap.size<=b∨gL e b o:=fun ho=>by
  rcases ho with q|q
  ·exact .inl (OW hs q)
  ·exact h.owns q
 refine⟨k.os.trans h.os,k.tape.trans h.tape,k.output.trans h.output,OW hs k.size,fun b hb hn=>?_,fun b o hb hn=>?_,fun b hb hn=>?_,h.ext.trans k.ext,fun b o hp=>?_,k.ok,fun id o ho=>?_,k.dom,k.inj⟩
 ·exact(k.block b (by omega) fun o=>no hb (hn o)).trans (h.block b hb hn)
 ·exact(k.cell b o (by omega) (no hb hn)).trans (h.cell b o hb hn)
 ·obtain⟨a1,a2⟩:=h.kind b hb hn
  obtain⟨b1,b2⟩:=k.kind b (by omega) fun ha=>hn fun o=>by
   rcases h.owns (ha o)with q|q
   ·omega
   ·exact q
  exact⟨b1.trans a1,fun o=>(b2 o).trans (a2 o)⟩
 ·rcases k.fresh b o hp with q|q
  ·exact h.fresh b o q
  ·exact .inr (up q)
 ·exact(k.slots id o ho).own_of fun c b o' hc hoc=>up ((k.slots id o ho).owns hc hoc)
theorem After.post{w w1 w2:World}{pub bY:Nat->Nat->Prop}{e e1:Nat->Option CObj}{B:Nat->Option SObj}(h:After w pub e B w1 bY e1)
 (hos:w2.os=w1.os)(htape:w2.tape=w1.tape)(hout:w2.output=w1.output)(hsize:w1.heap.size<=w2.heap.size)
 (hb:∀b,b<w1.heap.size->w2.heap[b]?=w1.heap[b]?∨(w.heap.size<=b/\(∀o,¬gL e1 b o)/\∀o,¬bY b o)):After w pub e B w2 bY e1:=by
 have hs:=h.size;have old:∀{b},b<w.heap.size->w2.heap[b]?=w1.heap[b]?:=fun hlt=>(hb _ (by omega)).resolve_right fun q=>by omega
 have pubc:∀b o,bY b o->w2.cell? ⟨b,o,none⟩=w1.cell? ⟨b,o,none⟩:=fun b o hp=>by obtain⟨v,hv⟩:=h.ok b o hp;exact ai ((hb b (aD hv)).resolve_right fun q=>q.2.2 o hp) o
 have hx:Ext ⟨e1,w1,bY⟩ ⟨e1,w2,bY⟩:=⟨fun _ c hc=>⟨c,hc,CLe.refl c⟩,fun _ _ p=>p,pubc⟩
 refine⟨hos.trans h.os,htape.trans h.tape,hout.trans h.output,OW hs hsize,fun b hlt hn=>(old hlt).trans (h.block b hlt hn),fun b o hlt hn=>(ai (old hlt) o).trans (h.cell b o hlt hn),
  fun b hlt hn=>?_,h.ext.trans hx,h.fresh,fun b o hp=>?_,fun id o ho=>?_,h.dom,h.inj⟩
 ·obtain⟨a1,a2⟩:=h.kind b hlt hn;exact⟨(aU (old hlt)).trans a1,fun o=>(aL (old hlt) o).trans (a2 o)⟩
 ·rw[pubc b o hp];exact h.ok b o hp
 ·refine(h.slots id o ho).keep hx rfl fun c hc=>jU.of_blocks fun b o' hoc=>⟨?_,fun _ p=>p⟩;rcases NZ b w1.heap.size with q|q
  ·exact(hb b q).resolve_right fun r=>r.2.1 o' ⟨id,c,hc,hoc⟩
  ·exact absurd ((h.slots id o ho).blkW hc hoc) (by show ¬b<w1.heap.size;omega)
theorem dY.after{w w1:World}{pub bY:Nat->Nat->Prop}{e e1:Nat->Option CObj}{B:Nat->Option SObj}(ht:dY w pub e)(h:After w pub e B w1 bY e1):dY w1 bY e1:=by
 refine⟨fun b o v hv=>?_,fun b x hx=>?_⟩
 ·obtain⟨h1,h2⟩:=ht.1 b o v hv;exact⟨h.ext.pub b o h1,(h.ext.cell b o h1).trans h2⟩
 ·obtain⟨h1,h2⟩:=ht.2 b x hx;have hlt:=aJ h1;refine⟨(h.block b hlt h2).trans h1,fun o ho=>?_⟩;rcases h.owns ho with q|q
  ·omega
  ·exact h2 o q
theorem After.holds{w w1:World}{pub bY:Nat->Nat->Prop}{e e1:Nat->Option CObj}{B:List (Nat×SObj)}(h:After w pub e (aj B) w1 bY e1)(hl:∀id c,e id=some c->bc id=true)(ht:dY w pub e) :
  Holds ⟨w,pub,0,e,hl,[],ht⟩ (St.abs ⟨[],B⟩) {tmps:=#[],defers:=[]} ⟨e1,w1,bY⟩:=
 ⟨fun i=>.undef _,rfl,rfl,h.slots,h.dom,h.inj,h.ok,h.ext.e,⟨h.os,h.tape,h.output,h.size,h.block,h.cell,h.kind,fun b o hp=>h.fresh b o hp,h.ext.pub,h.ext.cell⟩⟩
theorem After.drop{w w1:World}{pub bY:Nat->Nat->Prop}{e e1:Nat->Option CObj}{B B':List (Nat×SObj)}(h:After w pub e (aj B) w1 bY e1)(hl:∀id c,e id=some c->bc id=true)(ht:dY w pub e){A:List Nat}
 (hB:∀i,i∈A->aj B' i=none)(hB':∀i,i∉A->aj B' i=aj B i)(hn:bX A ⟨[],B'⟩=true)(hA:∀i∈A,e i=none) :
  After w pub e (aj B') w1 bY (fun i=>if i∈A then none else e1 i):=
 fy (T:=fun _=>.undef) (Holds.forget1 (s':=⟨[],B'⟩) (h.holds hl ht) (fun i=>.inl rfl) hB hB' hn hA)
theorem After.lay{w w1:World}{pub bY:Nat->Nat->Prop}{e e1:Nat->Option CObj}{B:List (Nat×SObj)}(h:After w pub e (aj B) w1 bY e1){id b off:Nat}{c:AV}(hid:aj B id=none)
 (hc:∀(j:Nat)(c':AV),(ae c)[j]?=some c'->(w.heap.size<=b∨gL e b (off+j))/\¬gL e1 b (off+j)/\¬bY b (off+j)/\w1.frozen? ⟨b,off+j,none⟩=false/\∃v,w1.cell? ⟨b,off+j,none⟩=some v/\V ⟨e1,w1,bY⟩ c' v) :
  After w pub e (aj ((id,.box c)::B)) w1 bY (fun i=>if i=id then some (.box b off (ae c).length)else e1 i):=by
 have hn:=h.dom id hid
 have hx:Ext ⟨e1,w1,bY⟩ ⟨fun i=>if i=id then some (.box b off (ae c).length)else e1 i,w1,bY⟩:=by
  refine⟨fun i c' hi=>⟨c',?_,CLe.refl c'⟩,fun _ _ p=>p,fun _ _ _=>rfl⟩;have:i≠id:=fun e=>by subst e;have hi:e1 i=some c':=hi;rw[hn]at hi;cases hi
  simp only[NU this];exact hi
 have bg:∀i,aj ((id,SObj.box c)::B) i=if i=id then some (.box c)else aj B i:=fun i=>by
  by_cases hi:i=id
  ·subst hi;simp[aj]
  ·have h1:Nat.beq i id=false:=by cases q:Nat.beq i id with|false=>rfl|true=>exact absurd (Og q) hi
   have h2:Nat.beq id i=false:=by cases q:Nat.beq id i with|false=>rfl|true=>exact absurd (Og q) (fun e=>hi e.symm)
   simp[aj,hi,h1,h2]
 have free:∀i ci o,e1 i=some ci->occ ci b o->off<=o->o<off+(ae c).length->False:=fun i ci o hi ho h1 h2=>by
  have hj:o-off<(ae c).length:=by omega
  have:=(hc (o-off) _ (NS hj)).2.1;rw[show off+(o-off)=o by omega]at this;exact this ⟨i,ci,hi,ho⟩
 refine⟨h.os,h.tape,h.output,h.size,h.block,h.cell,h.kind,h.ext.trans hx,h.fresh,h.ok,fun i o ho=>?_,fun i hi=>?_,fun i j ci cj b' o hi hj hbi hbj=>?_⟩
 ·rw[bg]at ho;by_cases hi:i=id
  ·subst hi;simp only[OV,Xs]at ho;subst ho;refine⟨b,off,by simp,fun j c' hj=>?_⟩;obtain⟨k0,_,k2,k3,v,k4,k5⟩:=hc j c' hj;exact⟨k0,k2,k3,v,k4,k5.ext hx⟩
  ·rw[NU hi]at ho;exact(h.slots i o ho).keep hx (by simp[hi]) (fun _ _=>jU.of_blocks fun _ _ _=>⟨rfl,fun _ p=>p⟩)
 ·rw[bg]at hi;by_cases hi':i=id
  ·rw[NY hi']at hi;cases hi
  ·rw[NU hi']at hi;simp only[NU hi'];exact h.dom i hi
 ·by_cases hi':i=id
  ·by_cases hj':j=id
   ·rw[hi',hj']
   ·simp only[NY hi',Xs]at hi;simp only[NU hj']at hj;subst hi;obtain⟨rfl,h1,h2⟩:=hbi;exact(free j cj o hj hbj h1 h2).elim
  ·by_cases hj':j=id
   ·simp only[NY hj',Xs]at hj;simp only[NU hi']at hi;subst hj;obtain⟨rfl,h1,h2⟩:=hbj;exact(free i ci o hi hbi h1 h2).elim
   ·simp only[NU hi']at hi;simp only[NU hj']at hj;exact h.inj i j ci cj b' o hi hj hbi hbj
theorem After.move{w w1:World}{pub bY:Nat->Nat->Prop}{e e1:Nat->Option CObj}{id id':Nat}{c:AV}{B:List (Nat×SObj)}(h:After w pub e (aj ((id,.box c)::B)) w1 bY e1)
 (hl:∀id c,e id=some c->bc id=true)(ht:dY w pub e)(hid:bc id=false)(hB:aj B id=none)(hB':aj B id'=none)(hn:bX [id] ⟨[],B⟩=true)(hc:∀i∈ids c,i≠id)(hp:∀c'∈ae c,∀i∈ids c',i∈ids c) :
  ∃b off,e1 id=some (.box b off (ae c).length)/\After w pub e (aj ((id',.box c)::B)) w1 bY (fun i=>if i=id' then some (.box b off (ae c).length)else if i∈[id]then none else e1 i):=by
 have b0:aj ((id,SObj.box c)::B) id=some (.box c):=by simp[aj]
 have h1:=h.drop (B':=B) (A:=[id]) hl ht (fun i hi=>by rw[OE.1 hi];exact hB) (fun i hi=>by
   have hi:i≠id:=fun q=>hi (OE.2 q);have h1:Nat.beq i id=false:=by cases q:Nat.beq i id with|false=>rfl|true=>exact absurd (Og q) hi
   have h2:Nat.beq id i=false:=by cases q:Nat.beq id i with|false=>rfl|true=>exact absurd (Og q) (fun e=>hi e.symm)
   simp[aj,h1,h2]) hn (fun i hi=>by
   rw[OE.1 hi]
   cases q:e id with
   |none=>rfl
   |some c'=>have:=hl id c' q;rw[hid]at this;cases this)
 obtain⟨b,off,he,hs⟩:=h.slots id _ b0;have he:e1 id=some (.box b off (ae c).length):=he;refine⟨b,off,he,h1.lay hB' fun j c' hj=>?_⟩;obtain⟨k1,k2,k3,v,k4,k5⟩:=hs j c' hj;refine⟨k1,fun⟨i,ci,hi,ho⟩=>?_,k2,k3,v,k4,k5.agree fun i hi=>NU fun q=>?_⟩
 ·by_cases q:i∈[id]
  ·simp only[NY q]at hi;cases hi
  ·simp only[NU q]at hi
   have hj':j<(ae c).length:=by
    rcases NZ j (ae c).length with k|k
    ·exact k
    ·rw[NV k]at hj;cases hj
   exact q (OE.2 (h.inj i id ci _ b (off+j) hi he ho ⟨rfl,by omega,by omega⟩))
 ·exact hc i (hp c' (Oi hj) i hi) (OE.1 q)
theorem After.enter{w w1:World}{pub bY:Nat->Nat->Prop}{e e1:Nat->Option CObj}{B:List (Nat×SObj)}(h:After w pub e (aj B) w1 bY e1)(hl:∀id c,e1 id=some c->bc id=true)(ht:dY w1 bY e1)
 {t:List (Nat×AV)}{tmps:Array Value}(hv:∀i,V ⟨e1,w1,bY⟩ (aZ t i) (tmps.getD i undef)) :
  Holds ⟨w1,bY,tmps.size,e1,hl,[],ht⟩ (St.abs ⟨t,B⟩) {tmps,defers:=[]} ⟨e1,w1,bY⟩:=
 ⟨hv,rfl,rfl,fun id o ho=>(h.slots id o ho).own_of fun c b o' hc hoc=>.inr ⟨id,c,hc,hoc⟩,h.dom,h.inj,h.ok,fun id c hc=>⟨c,hc,CLe.refl c⟩,
  ⟨rfl,rfl,rfl,O7 _,fun _ _ _=>rfl,fun _ _ _ _=>rfl,fun _ _ _=>⟨rfl,fun _=>rfl⟩,fun _ _ h=>.inl h,fun _ _ h=>h,fun _ _ _=>rfl⟩⟩
theorem After.blk{w w1:World}{pub bY:Nat->Nat->Prop}{e e1:Nat->Option CObj}{B:Nat->Option SObj}(h:After w pub e B w1 bY e1){b o:Nat}(ho:gL e1 b o):b<w1.heap.size:=by
 obtain⟨id,c,hc,hoc⟩:=ho
 cases hB:B id with
 |none=>rw[h.dom id hB]at hc;cases hc
 |some ob=>exact(h.slots id ob hB).blkW hc hoc
theorem After.lent{w w1:World}{pub bY:Nat->Nat->Prop}{e e1:Nat->Option CObj}{B:List (Nat×SObj)}(h:After w pub e (aj B) w1 bY e1)(hk:(aN B).all bc=true):∀id c,e1 id=some c->bc id=true:=by
 intro id c hc
 cases hg:aj B id with
 |none=>rw[h.dom id hg]at hc;cases hc
 |some o=>exact O5.1 hk id (Ot.2 ⟨(id,o),ca _ _ _ hg,rfl⟩)
theorem Ext.lay{e:Nat->Option CObj}{w:World}{pub:Nat->Nat->Prop}{id:Nat}{c:CObj}(hn:e id=none):Ext ⟨e,w,pub⟩ ⟨fun i=>if i=id then some c else e i,w,pub⟩:=by
 refine⟨fun i c' hi=>⟨c',?_,CLe.refl c'⟩,fun _ _ p=>p,fun _ _ _=>rfl⟩;have hi:e i=some c':=hi;have:i≠id:=fun q=>by rw[q,hn]at hi;cases hi
 simp only[NU this];exact hi
theorem Ext.drop{Ω:Om}{e:Nat->Option CObj}{w:World}{pub:Nat->Nat->Prop}(h:Ext Ω ⟨e,w,pub⟩){A:List Nat}(hA:∀i∈A,Ω.e i=none):Ext Ω ⟨fun i=>if i∈A then none else e i,w,pub⟩:=by
 refine⟨fun i c hi=>?_,h.pub,h.cell⟩;have:i∉A:=fun q=>by rw[hA i q]at hi;cases hi
 simp only[NU this];exact h.e i c hi
theorem Ext.world{e:Nat->Option CObj}{W W2:World}{pub:Nat->Nat->Prop}(hp:jx W pub)(hb:∀b,b<W.heap.size->W2.heap[b]?=W.heap[b]?∨∀o,¬pub b o):Ext ⟨e,W,pub⟩ ⟨e,W2,pub⟩:=
 ⟨fun _ c hc=>⟨c,hc,CLe.refl c⟩,fun _ _ p=>p,fun b o p=>by
  obtain⟨v,hv⟩:=hp b o p;exact ai ((hb b (aD hv)).resolve_right fun q=>q o p) o⟩
structure Foreign(e:Nat->Option CObj)(pub:Nat->Nat->Prop)(b:Nat):Prop where
 no:∀o,¬gL e b o
 np:∀o,¬pub b o
theorem Foreign.lay{e:Nat->Option CObj}{pub:Nat->Nat->Prop}{l:Nat}(h:Foreign e pub l){id b off n:Nat}(hb:b≠l):Foreign (fun i=>if i=id then some (.box b off n)else e i) pub l:=by
 refine⟨fun o ⟨i,c,hi,ho⟩=>?_,h.np⟩;by_cases q:i=id
 ·simp only[NY q,Xs]at hi;subst hi;exact hb ho.1.symm
 ·simp only[NU q]at hi;exact h.no o ⟨i,c,hi,ho⟩
theorem Foreign.drop{e:Nat->Option CObj}{pub:Nat->Nat->Prop}{l:Nat}(h:Foreign e pub l)(A:List Nat):Foreign (fun i=>if i∈A then none else e i) pub l:=by
 refine⟨fun o ⟨i,c,hi,ho⟩=>?_,h.np⟩;by_cases q:i∈A
 ·simp only[NY q]at hi;cases hi
 ·simp only[NU q]at hi;exact h.no o ⟨i,c,hi,ho⟩
theorem Foreign.after{w w1:World}{pub bY:Nat->Nat->Prop}{e e1:Nat->Option CObj}{B:Nat->Option SObj}(h:After w pub e B w1 bY e1){l:Nat}(hl:l<w.heap.size)(hf:Foreign e pub l):Foreign e1 bY l:=
 ⟨fun o ho=>by
  rcases h.owns ho with q|q
  ·omega
  ·exact hf.no o q,fun o ho=>by
  rcases h.fresh l o ho with q|q|q
  ·exact hf.np o q
  ·omega
  ·exact hf.no o q⟩
theorem After.swapL{w w1:World}{pub bY:Nat->Nat->Prop}{e e1:Nat->Option CObj}{x y:Nat×SObj}{B:List (Nat×SObj)}(h:After w pub e (aj (x::y::B)) w1 bY e1)(hne:(x.1 ==y.1)=false):After w pub e (aj (y::x::B)) w1 bY e1:=by
 have e:aj (x::y::B)=aj (y::x::B):=by
  funext i;obtain⟨a,o⟩:=x;obtain⟨b,o'⟩:=y;simp only[aI];by_cases h1:a=i
  ·subst h1;have:¬b=a:=fun q=>by subst q;simp at hne
   simp[this]
  ·simp[h1]
 rw[<-e];exact h
end Go.AL
end
section
namespace Go.Proofs
open Go.RowKit Go.AL
variable [Tabs]
attribute [local go_sem] Oper.semAt_some
structure IV where
 k:Int
 s1:ByteArray
 k2:Int
 s3:ByteArray
 s4:ByteArray
 a5:Option Addr
 n5:Nat
 c5:Nat
 a6:Option Addr
 n6:Nat
 c6:Nat
def IV.vs(x:IV):List Value:=[.int .i64 x.k,.string x.s1,.int .i64 x.k2,.string x.s3,.string x.s4,.slice x.a5 x.n5 x.c5,.slice x.a6 x.n6 x.c6]
theorem HP{n:Nat}{P:Program}{ops:Array Oper}{Q:Exit->Act->World->Prop}{rest:List Oper}{a:Act}{w:World}{o:Oper}(hw:Region.wanted o (yielded ops a.tmps)=false)
 (h:wpListIn Fence.wide n P ops Q rest (a.put o.dst undef) w):wpListIn Fence.wide n P ops Q (o::rest) a w:=by
 simp only[wpListIn,hw];exact⟨fun _ _=>trivial,h⟩
set_option maxRecDepth 100000 in
set_option maxHeartbeats 4000000 in
theorem Tryz.lets1(m l n b off cap bK oK:Nat)(q:Option Addr)(vals:Nat->IV)(hn:n<=4611686018427387904)(J:Nat->World->Prop)
 (hR:∀k W,J k W->k<n->q=some ⟨b,off,none⟩/\∀(j:Nat)(v:Value),(vals k).vs[j]?=some v->W.cell? ⟨b,off+(k *7+j),none⟩=some v)
 (hA:∀k W o,J k W->J k (W.alloc o))(hN:∀k W,J k W->k<n->(vals k).k≠3->J (k+1) W)
 (hY:∀k W,J k W->k<n->(vals k).k=3->YieldAt Fence.wide m Tryz.prog l #[.agg (vals k).vs.toArray] W fun e W'=>e=.returned (.bool true)/\J (k+1) W')
 (W:World)(hK:W.cell? ⟨bK,oK,none⟩=some (.slice q n cap))(h0:J 0 W) :
  CallsIn Fence.wide (m+1) Tryz.prog 98 #[.func (.yield l) #[] #[],.pointer (some ⟨bK,oK,none⟩)] W fun e W'=>(∃v,e=.returned v)/\J n W':=by
 refine callsIn_of_wp Tryz.func98 rfl trivial ?_ rfl;simp only[Tryz.ntmps98,Pw,O2,OH,Nat.reduceAdd,Nat.reduceSub,Pp,Pq,PB,Ps,Pg,OI]
 gi_wp2
 gi_loopw [7] (fun i wr=>∃k:Nat,k<=n/\i=.int .i64 k/\J k wr)
  (fun i _=>n-(intOf i).toNat)
 case atStart=>exact⟨0,O9 _,rfl,h0⟩
 case round=>
  obtain⟨k,hk,rfl,hJs⟩:=hrel;by_cases hlt:k<n
  ·obtain⟨rfl,hv⟩:=hR k wr hJs hlt;have hJ1:=hA k wr (.cells (vals k).vs.toArray 49) hJs;have hN1:=hN k _ hJ1 hlt;have hY1:=hY k _ hJ1 hlt;have hsmall:(k:Int)+1<=9223372036854775807:=by omega
   generalize vals k=x at hv hJ1 hN1 hY1;obtain⟨kd,s1,k2,s3,s4,a5,n5,c5,a6,n6,c6⟩:=x;have v0:=hv 0 _ rfl;have v1:=hv 1 _ rfl;have v2:=hv 2 _ rfl;have v3:=hv 3 _ rfl;have v4:=hv 4 _ rfl;have v5:=hv 5 _ rfl;have v6:=hv 6 _ rfl;simp only[IV.vs]at hJ1 hY1 hN1;simp only[<-PI,PK]at v0 v1 v2 v3 v4 v5 v6;clear hR hA hN hY hv;by_cases h3:kd=3
   ·subst h3;obtain⟨fn,tmps,assign,body,hy,hRd⟩:=hY1 rfl;clear hN1 hY1
    gi_wp2
    refine hRd.mono ?_;rintro e W3 ⟨rfl,hJ3⟩
    gi_wp2
    go_roundw
    case rel=>exact⟨k+1,by omega,by simp,hJ3⟩
    case measure=>simp[intOf];omega
   ·have h3':(kd ==3)=false:=by simpa using h3
    have hJ2:=hN1 h3;clear hN1 hY1
    gi_wp2_with (refine HP rfl ?_;simp only[Act.put,List.setIfInBounds_toArray,List.set_cons_succ,List.set_cons_zero])
    exact⟨⟨k+1,by omega,by simp,hJ2⟩,by simp[intOf];omega⟩
  ·obtain rfl:k=n:=by omega
   clear hR hA hN hY
   gi_wp2
   go_end0
   exact⟨⟨_,rfl⟩,hJs⟩
end Go.Proofs
end
noncomputable section
open Go Go.AL Go.Proofs Go.Pd Go.RowKit
namespace Go.AL.Seat
attribute [local go_sem] Oper.semAt_some
variable [Tabs]
noncomputable def cA:Code->Code|.seq a _=>a|c=>c
noncomputable def cB:Code->Code|.seq _ b=>b|c=>c
noncomputable def cF:Func->Code:=fun f=>f.body.getD .skip
noncomputable def im0:Code:=cA (cF Tryz.f23)
noncomputable def im1:Code:=cA (cB (cF Tryz.f23))
noncomputable def im2:Code:=cA (cB (cB (cF Tryz.f23)))
noncomputable def rgA:Code->Code|.block _ (.rangeFunc _ _ a _)=>a|c=>c
noncomputable def rgB:Code->Array Oper|.block _ (.rangeFunc _ _ _ (.block _ (.region _ ops _)))=>ops|_=>#[]
noncomputable def im4:Array Oper:=rgB (cB (cB (cB (cF Tryz.f23))))
def im3:Code:=Code.region 3 #[{dst:=some 4,op:=Op.alloc 49,type:=0,pos:= "check.go:50",after:=#[],guard:=none},{dst:=none,op:=Op.store 49 (Operand.tmp 4) (Operand.tmp 25),type:=0,pos:= "check.go:50",after:=#[{on:=0,ground:=Ground.data},{on:=0,ground:=Ground.phase}],guard:=none}] false
noncomputable def imC:Cfg:=⟨tbl,gE [(55,p2 .str (.lst (.st .item)) fun o l=>⟨some (l.length<=1048576/\∀x∈l,allS nmU x.shape=true),none,.lst (.st .bind) (aP o l) none,[]⟩),
 (56,p1 (.lst (.st .item)) fun l=>⟨none,none,.fn 98 [.ptr 1 0],[(1,.box (.lst (.st .item) l none))]⟩),
 (57,LB (fun se ty va o n x=>⟨some (va.length<=1000000),none,.tup [],[(900,.box (.agg [.str se,.lst (.st .bind) ty (some 901),.lst (.st .bind) (va++[AL.Bndg.mk o n x]) (some 902),.nils])),(902,.tail (.st .bind) (va.length+1))]⟩) fun e o n x=>⟨some (e.values.length<=1000000),none,.tup [],[(900,.box (.agg [.str e.self,.lst (.st .bind) e.types none,.lst (.st .bind) (e.values++[AL.Bndg.mk o n x]) (some 901),.lst (.st .bind) e.own (some 902)])),(901,.tail (.st .bind) (e.values.length+1))]⟩)],fun _=>false,fun f=>if Nat.beq f 57 then[some 1004]else[],fun _=>false,fun _=>false,fun _=>false⟩
theorem M9:Tryz.f23.body=some (.seq im0 (.seq im1 (.seq im2 (.block 0 (.rangeFunc (.tmp 24) #[25] im3 (.block 1 (.region 4 im4 true))))))):=by kernel_rfl
def imQ(t:St):SX->St->Prop:=fun x s=>match x with|.normal=>cS s t|_=>False
def imN(c:Code)(Q:SX->St->Prop):SX->St->Prop:=fun x s=>match x with|.normal=>swp imC [2,3,24] ⟨[],[],[]⟩ c s Q|e=>Q e s
def NN(d:Depd)(S:List (Nat×SObj)):List (Nat×SObj):=(2,.box (.ptr 900 0))::(3,.box (.st .dep d))::(2024,.box (.lst (.st .item) d.items none))::S
theorem Nf(se:Str)(ty va:List Bndg)(d:Depd)(h1:d.items.length<=4000)(h2:∀x∈d.items,allS nmU x.shape=true)(h3:ty.length<=500000) :
  swp imC [2,3,24] ⟨[],[],[]⟩ im0 ⟨de 0 [.ptr 900 0,.st .dep d],ck1 se ty va⟩ (imN (.seq im1 (.seq im2 .skip)) (imQ ⟨[(2,.ptr 2 0),(3,.ptr 3 0),(24,.fn 98 [.ptr 2024 0])],NN d (ck1 se (ty++aP d.name d.items) va)⟩)):=by
 have:=kZ d.name d.items
 have c:(List.length d.items<=(1048576:Nat)/\∀(x:AL.Item),x∈d.items->allS nmU x.shape=true)/\(List.length ty=List.length ty/\(List.length ty+List.length (aP d.name d.items)) *(120:Nat)<=(140737488355328:Nat))/\d=d/\d.items=d.items/\se=se/\ty++aP d.name d.items=ty++aP d.name d.items/\va=va/\
   List.length (ty++aP d.name d.items)=List.length (ty++aP d.name d.items)/\List.length va=List.length va/\fA (den Ty.str×den (Ty.st SN.item))=fA (den Ty.str×den (Ty.st SN.item))/\True:=
  ⟨⟨by omega,h2⟩,⟨rfl,by omega⟩,rfl,rfl,rfl,rfl,rfl,rfl,rfl,rfl,trivial⟩
 exact @Eq.mpr _ _ (by kernel_rfl) c
theorem Ng(s:St)(Q:SX->St->Prop):swp imC [2,3,24] ⟨[],[],[]⟩ (.seq im1 (.seq im2 .skip)) s Q=swp imC [2,3,24] ⟨[],[],[]⟩ im1 s (imN (.seq im2 .skip) Q):=by kernel_rfl
theorem Nh(s:St)(Q:SX->St->Prop):swp imC [2,3,24] ⟨[],[],[]⟩ (.seq im2 .skip) s Q=swp imC [2,3,24] ⟨[],[],[]⟩ im2 s (imN .skip Q):=by kernel_rfl
def imS(se:Str)(ty va:List Bndg)(d:Depd):List (Nat×SObj):=(906,.box (.st .dep d))::(905,.box (.ptr 900 0))::ck1 se ty va
theorem Ma(se:Str)(ty va:List Bndg)(d:Depd)(x:AL.Item)(h:va.length<=1000000) :
  kq imC [] im4 true ⟨[(2,.ptr 905 0),(3,.ptr 906 0),(4,.ptr 904 0)],(904,.box (.st .item x))::imS se ty va d⟩ (imQ ⟨[],(904,.box (.st .item x))::imS se ty (va++[⟨d.name,x.name,x.shape⟩]) d⟩):=by
 have c:((List.length ty=List.length ty/\List.length va=List.length va)/\List.length va<=(1000000:Nat))/\x=x/\d=d/\se=se/\ty=ty/\va++[AL.Bndg.mk d.name x.name x.shape]=va++[AL.Bndg.mk d.name x.name x.shape]/\List.length ty=List.length ty/\
   List.length va+(1:Nat)=List.length (va++[AL.Bndg.mk d.name x.name x.shape])/\fA (den Ty.str×den (Ty.st SN.item))=fA (den Ty.str×den (Ty.st SN.item))/\True:=
  ⟨⟨⟨rfl,rfl⟩,h⟩,rfl,rfl,rfl,rfl,rfl,rfl,by rw[Oc];rfl,rfl,trivial⟩
 exact @Eq.mpr _ _ (by kernel_rfl) c
theorem Ni:∀o∈im4.toList,∀d,o.dst=some d->d<36:=by
 have h:im4.toList.all (fun o=>match o.dst with|some d=>Nat.blt d 36|none=>true)=true:=by kernel_rfl
 intro o ho d hd;have:=O5.1 h o ho;rw[hd]at this;simpa[Qo]using this
theorem Nj:∀o∈im4.toList,∀c,o.op≠.defer c:=by
 have h:im4.toList.all (fun o=>match o.op with|.defer _=>false|_=>true)=true:=by kernel_rfl
 intro o ho c hc;have:=O5.1 h o ho;rw[hc]at this;cases this
theorem Ku{Ω:Om}{l:List AL.Item}{v:Value}(h:V Ω (.lst (.st .item) l none) v):∃(q:Option Addr)(cap b off:Nat)(vals:Nat->IV),v=.slice q l.length cap/\
  ∀k,k<l.length->q=some ⟨b,off,none⟩/\(vals k).k=(l.getD k (dfl (.st .item))).kind/\VL Ω (dL (l.getD k (dfl (.st .item)))) (vals k).vs/\
   ∀(j:Nat)(v':Value),(vals k).vs[j]?=some v'->Ω.pub b (off+(k *7+j))/\Ω.w.cell? ⟨b,off+(k *7+j),none⟩=some v':=by
 rcases h.lst_inv with⟨rfl,rfl,_⟩|⟨rfl,_,a,rfl⟩|⟨b,off,cap,vals,rfl,h1,h2,_,h4,h5⟩
 ·exact⟨none,0,0,0,fun _=>⟨0,default,0,default,default,none,0,0,none,0,0⟩,rfl,fun k hk=>by cases hk⟩
 ·exact⟨some a,0,0,0,fun _=>⟨0,default,0,default,default,none,0,0,none,0,0⟩,rfl,fun k hk=>by cases hk⟩
 ·have key:∀k,∃iv:IV,k<l.length->iv.k=(l.getD k (dfl (.st .item))).kind/\iv.vs=[vals k 0,vals k 1,vals k 2,vals k 3,vals k 4,vals k 5,vals k 6]:=by
   intro k;by_cases hk:k<l.length
   ·have e:l[k]?=some (l.getD k (dfl (.st .item))):=by simp[NX,hk]
    generalize l.getD k (dfl (.st .item))=x at e;have c:=h5 k x e;have c0:=(c 0 (.int .i64 x.kind) rfl).int_inv.1;have c1:=(c 1 (.str x.name) rfl).str_inv.1;have c2:=(c 2 (.int .i64 x.shape.kind) rfl).int_inv.1;have c3:=(c 3 (.str x.shape.pkg) rfl).str_inv.1;have c4:=(c 4 (.str x.shape.name) rfl).str_inv.1;have c5:∃a n m,vals k 5=.slice a n m:=by rcases(c 5 (.lst .str x.shape.names none) rfl).lst_inv with⟨_,q,_⟩|⟨_,_,a,q⟩|⟨_,_,_,_,q,_⟩<;>exact⟨_,_,_,q⟩
    have c6:∃a n m,vals k 6=.slice a n m:=by rcases(c 6 (.lst (.st .shape) x.shape.parts none) rfl).lst_inv with⟨_,q,_⟩|⟨_,_,a,q⟩|⟨_,_,_,_,q,_⟩<;>exact⟨_,_,_,q⟩
    obtain⟨a5,n5,m5,c5⟩:=c5;obtain⟨a6,n6,m6,c6⟩:=c6;exact⟨⟨x.kind,_,x.shape.kind,_,_,a5,n5,m5,a6,n6,m6⟩,fun _=>⟨rfl,by rw[c0,c1,c2,c3,c4,c5,c6];rfl⟩⟩
   ·exact⟨⟨0,default,0,default,default,none,0,0,none,0,0⟩,fun h=>absurd h hk⟩
  obtain⟨iv,hiv⟩:=Classical.skolem.1 key;refine⟨_,cap,b,off,iv,rfl,fun k hk=>⟨rfl,(hiv k hk).1,?_,?_⟩⟩
  ·have e:l[k]?=some (l.getD k (dfl (.st .item))):=by simp[NX,hk]
   rw[(hiv k hk).2];have c:=h5 k _ e
   exact⟨rfl,fun j c' v' hc hv=>by
    have:v'=vals k j:=by
     match j,hv with
     |0,hv=>exact(OB hv).symm
     |1,hv=>exact(OB hv).symm
     |2,hv=>exact(OB hv).symm
     |3,hv=>exact(OB hv).symm
     |4,hv=>exact(OB hv).symm
     |5,hv=>exact(OB hv).symm
     |6,hv=>exact(OB hv).symm
     |n+7,hv=>cases hv
    rw[this];exact c j c' hc⟩
  ·have e:l[k]?=some (l.getD k (dfl (.st .item))):=by simp[NX,hk]
   rw[(hiv k hk).2];intro j v' hv
   match j,hv with
   |0,hv=>cases hv;exact h4 k _ e 0 _ rfl
   |1,hv=>cases hv;exact h4 k _ e 1 _ rfl
   |2,hv=>cases hv;exact h4 k _ e 2 _ rfl
   |3,hv=>cases hv;exact h4 k _ e 3 _ rfl
   |4,hv=>cases hv;exact h4 k _ e 4 _ rfl
   |5,hv=>cases hv;exact h4 k _ e 5 _ rfl
   |6,hv=>cases hv;exact h4 k _ e 6 _ rfl
   |n+7,hv=>cases hv
theorem wY(o:Str):∀(l m:List AL.Item),bW o (l++m)=bW o l++bW o m
 |[],m=>rfl
 |x::r,m=>by rw[OI];simp only[bW,wY o r m];split<;>rfl
theorem C5(o:Str)(l:List AL.Item)(k:Nat)(d:AL.Item)(h:k<l.length) :
  bW o (l.take (k+1))=bW o (l.take k)++(if(l.getD k d).kind=3 then[⟨o,(l.getD k d).name,(l.getD k d).shape⟩]else[]):=by
 rw[cu l k d h,wY];simp only[bW]
def imR(fn:FuncId)(tm:Array Value)(D:Nat)(st:LoopState):Loop:={state:=st,pending:=none,fn,tmps:=tm,params:=#[25],assign:=im3,body:=.block 1 (.region 4 im4 true),defers:=D}
structure ImJ(w:World)(pub:Nat->Nat->Prop)(e:Nat->Option CObj)(W1:World)(bY:Nat->Nat->Prop)(e1:Nat->Option CObj)(fn:FuncId)(tm:Array Value)(l D:Nat)(B:List (Nat×SObj))(W:World):Prop where
 aft:∃pub' e',After w pub e (aj B) W pub' e'/\Ext ⟨e1,W1,bY⟩ ⟨e',W,pub'⟩/\Foreign e' pub' l/\Foreign e' pub' D
 L:W.heap[l]?=some (.loop (imR fn tm D .ready))
 K:W.heap[D]?=some (.deferred (some []))
section
variable {w W1:World} {pub bY:Nat->Nat->Prop} {e e1:Nat->Option CObj} {fn:FuncId} {tm:Array Value} {l D:Nat}
theorem ImJ.alloc{B:List (Nat×SObj)}{W:World}(h:ImJ w pub e W1 bY e1 fn tm l D B W)(o:Obj):ImJ w pub e W1 bY e1 fn tm l D B (W.alloc o):=by
 obtain⟨⟨pub',e',h1,h2,h3,h4⟩,hL,hK⟩:=h
 exact⟨⟨pub',e',h1.post rfl rfl rfl (by simp) fun b hb=>.inl (Below.heap_alloc _ _ b hb),h2.trans (Ext.world h1.ok fun b hb=>.inl (Below.heap_alloc _ _ b hb)),h3,h4⟩,
  (Below.heap_alloc _ _ _ (aJ hL)).trans hL,(Below.heap_alloc _ _ _ (aJ hK)).trans hK⟩
theorem Kv(hS:bH Tryz.prog imC.spec)(hl:∀id c,e id=some c->bc id=true)(ht:dY w pub e)(hwl:w.heap.size<=l)(hwD:w.heap.size<=D)(hlD:D≠l)
 {se:Str}{ty va:List Bndg}{d:Depd}{x:AL.Item}{iv:IV}{W:World}{t0 t1 t2 t3 t4 t5 t6 t7 t8 t9 t10 t11 t12 t13 t14 t15 t16 t17 t18 t19 t20 t21 t22 t23 t24 t25 t26 t27 t28 t29 t30 t31 t32 t33 t34 t35:Value}(htm:tm=(t0::t1::t2::t3::t4::t5::t6::t7::t8::t9::t10::t11::t12::t13::t14::t15::t16::t17::t18::t19::t20::t21::t22::t23::t24::t25::t26::t27::t28::t29::t30::t31::t32::t33::t34::t35::[]).toArray)
 (h2:V ⟨e1,W1,bY⟩ (.ptr 905 0) t2)(h3:V ⟨e1,W1,bY⟩ (.ptr 906 0) t3)(hiv:VL ⟨e1,W1,bY⟩ (dL x) iv.vs)(hva:va.length<=1000000)
 (hJ:ImJ w pub e W1 bY e1 fn tm l D (imS se ty va d) W) :
  YieldAt Fence.wide 0 Tryz.prog l #[.agg iv.vs.toArray] W fun en W'=>en=.returned (.bool true)/\ImJ w pub e W1 bY e1 fn tm l D (imS se ty (va++[⟨d.name,x.name,x.shape⟩]) d) W':=by
 subst htm;obtain⟨⟨pub',e',ha,hx,hf,hg⟩,hL,hK⟩:=hJ;obtain⟨kd,s1,k2,s3,s4,a5,n5,c5,a6,n6,c6⟩:=iv;refine⟨fn,(t0::t1::t2::t3::t4::t5::t6::t7::t8::t9::t10::t11::t12::t13::t14::t15::t16::t17::t18::t19::t20::t21::t22::t23::t24::.agg (IV.vs ⟨kd,s1,k2,s3,s4,a5,n5,c5,a6,n6,c6⟩).toArray::t26::t27::t28::t29::t30::t31::t32::t33::t34::t35::[]).toArray,im3,.block 1 (.region 4 im4 true),by simpa[imR]using run_yield (P:=Tryz.prog) (args:=#[.agg (IV.vs ⟨kd,s1,k2,s3,s4,a5,n5,c5,a6,n6,c6⟩).toArray]) hL rfl,roundIn_of_wpIn trivial ?_⟩;simp only[IV.vs]at hiv⊢;obtain⟨Rq,hRq⟩:∃Rq:Act->World->Prop,Rq=fun a₁ w₁=>∃w₂,(Instr.beginRound l).run Tryz.prog w₁=.ok () w₂/\(Code.block 1 (.region 4 im4 true)).wpIn (Fence.wide.inRound l) 0 Tryz.prog (roundPost Tryz.prog l fun en W'=>en=.returned (.bool true)/\ImJ w pub e W1 bY e1 fn (t0::t1::t2::t3::t4::t5::t6::t7::t8::t9::t10::t11::t12::t13::t14::t15::t16::t17::t18::t19::t20::t21::t22::t23::t24::t25::t26::t27::t28::t29::t30::t31::t32::t33::t34::t35::[]).toArray l D (imS se ty (va++[⟨d.name,x.name,x.shape⟩]) d) W') a₁ w₂:=⟨_,rfl⟩;rw[<-hRq];unfold im3
 gi_wp2
 rw[hRq];clear hRq;obtain⟨Wa,hWa⟩:∃Wa,W.alloc (.cells #[.int .i64 kd,.string s1,.int .i64 k2,.string s3,.string s4,.slice a5 n5 c5,.slice a6 n6 c6] 49)=Wa:=⟨_,rfl⟩;rw[hWa];have hlW:=aJ hL;have hDW:=aJ hK;have old:∀b,b<W.heap.size->Wa.heap[b]?=W.heap[b]?:=fun b hb=>by rw[<-hWa];exact Below.heap_alloc _ _ _ hb
 have sz:Wa.heap.size=W.heap.size+1:=by rw[<-hWa];simp
 have h4:Wa.heap[W.heap.size]?=some (.cells #[.int .i64 kd,.string s1,.int .i64 k2,.string s3,.string s4,.slice a5 n5 c5,.slice a6 n6 c6] 49 (0,0)):=by rw[<-hWa];exact World.alloc_heap_new _ _
 have hLa:=(old l hlW).trans hL;have eos:Wa.os=W.os/\Wa.tape=W.tape/\Wa.output=W.output:=by rw[<-hWa];exact⟨rfl,rfl,rfl⟩
 refine⟨_,run_beginRound hLa rfl,?_⟩;obtain⟨W2,hW2⟩:∃W2,Wa.putObj l (.loop {imR fn (t0::t1::t2::t3::t4::t5::t6::t7::t8::t9::t10::t11::t12::t13::t14::t15::t16::t17::t18::t19::t20::t21::t22::t23::t24::t25::t26::t27::t28::t29::t30::t31::t32::t33::t34::t35::[]).toArray D .ready with state:=.busy})=W2:=⟨_,rfl⟩;rw[hW2];have old2:∀b,b≠l->W2.heap[b]?=Wa.heap[b]?:=fun b hb=>by rw[<-hW2];exact World.putObj_heap_other hb
 have hL2:W2.heap[l]?=some (.loop {imR fn (t0::t1::t2::t3::t4::t5::t6::t7::t8::t9::t10::t11::t12::t13::t14::t15::t16::t17::t18::t19::t20::t21::t22::t23::t24::t25::t26::t27::t28::t29::t30::t31::t32::t33::t34::t35::[]).toArray D .ready with state:=.busy}):=by rw[<-hW2];exact World.putObj_heap_same (by omega)
 have sz2:W2.heap.size=W.heap.size+1:=by rw[<-hW2,World.putObj_size,sz]
 have eos2:W2.os=W.os/\W2.tape=W.tape/\W2.output=W.output:=by rw[<-hW2];exact eos
 have hK2:W2.heap[D]?=some (.deferred (some [])):=(old2 D hlD).trans ((old D hDW).trans hK);have h42:=(old2 W.heap.size (by omega)).trans h4;clear hWa hW2 hLa h4
 have ha2:After w pub e (aj (imS se ty va d)) W2 pub' e':=ha.post eos2.1 eos2.2.1 eos2.2.2 (by omega) fun b hb=>by
  by_cases q:b=l
  ·exact .inr (by rw[q];exact⟨hwl,hf.no,hf.np⟩)
  ·exact .inl ((old2 b q).trans (old b hb))
 have hx2:Ext ⟨e1,W1,bY⟩ ⟨e',W2,pub'⟩:=hx.trans (Ext.world ha.ok fun b hb=>by
  by_cases q:b=l
  ·exact .inr (by rw[q];exact hf.np)
  ·exact .inl ((old2 b q).trans (old b hb)))
 have hsz:=ha.size
 have hA4:=ha2.lay (id:=904) (b:=W.heap.size) (off:=0) (c:=.st .item x) rfl (fun j c' hj=>by
  have hj:(dL x)[j]?=some c':=hj
  have hj7:j<7:=by
   rcases NZ j 7 with q|q
   ·exact q
   ·rw[NV (by exact q)]at hj;cases hj
  obtain⟨v,hv⟩:∃v,[Value.int .i64 kd,.string s1,.int .i64 k2,.string s3,.string s4,.slice a5 n5 c5,.slice a6 n6 c6][j]?=some v:=⟨_,NS hj7⟩;refine⟨.inl hsz,fun ho=>?_,fun hp=>?_,ep h42 _,v,?_,(hiv.2 j c' v hj hv).ext hx2⟩
  ·have:=ha.blk ho;omega
  ·obtain⟨u,hu⟩:=ha.ok _ _ hp;have:=aD hu;omega
  ·rw[al h42,OU];simpa using hv)
 have n904:e' 904=none:=ha.dom 904 rfl;have hx4:=hx2.trans (Ext.lay (id:=904) (c:=.box W.heap.size 0 (ae (.st .item x)).length) n904);have hf4:=(hf.lay (id:=904) (b:=W.heap.size) (off:=0) (n:=(ae (.st .item x)).length) (by omega));have hg4:=(hg.lay (id:=904) (b:=W.heap.size) (off:=0) (n:=(ae (.st .item x)).length) (by omega));obtain⟨e4,he4⟩:∃e4,(fun i=>if i=904 then some (.box W.heap.size 0 (ae (.st .item x)).length)else e' i)=e4:=⟨_,rfl⟩;have e904:e4 904=some (.box W.heap.size 0 (ae (.st .item x)).length):=by rw[<-he4];rfl
 rw[he4]at hA4 hx4 hf4 hg4;clear he4;have hlent4:=hA4.lent rfl;have tab4:=ht.after hA4;have hx4':=hx4
 have hh:=hA4.enter hlent4 tab4 (t:=[(2,.ptr 905 0),(3,.ptr 906 0),(4,.ptr 904 0)]) (tmps:=(t0::t1::t2::t3::.pointer (some ⟨W.heap.size,0,none⟩)::t5::t6::t7::t8::t9::t10::t11::t12::t13::t14::t15::t16::t17::t18::t19::t20::t21::t22::t23::t24::.agg #[.int .i64 kd,.string s1,.int .i64 k2,.string s3,.string s4,.slice a5 n5 c5,.slice a6 n6 c6]::t26::t27::t28::t29::t30::t31::t32::t33::t34::t35::[]).toArray) (fun i=>by
  rcases jW [(2,.ptr 905 0),(3,.ptr 906 0),(4,.ptr 904 0)] i with q|q
  ·rw[q];exact .undef _
  ·simp only[O1,Qn,Pu,R8]at q;rcases q with⟨rfl,q⟩|⟨rfl,q⟩|⟨rfl,q⟩
   ·rw[q];exact h2.ext hx4
   ·rw[q];exact h3.ext hx4
   ·rw[q];exact V.ptr 904 0 W.heap.size 0 _ e904)
 refine wpIn_block (wpIn_mono (HO mixed uh hS [] Ni Nj (Ma se ty va d x hva) hh) ?_);rintro en a' w' ⟨z,s',Ω',hz,rfl,hh',hq'⟩
 cases z with
 |exit _=>exact hq'.elim
 |ret=>exact hq'.elim
 |pan _=>exact hq'.elim
 |normal=>
 cases hz;obtain⟨Ω5,e5,hh5⟩:=dx hh' (gu hq');rw[<-e5];have hB5:=fy hh5;have hA5:=hA4.trans hB5
 have hA6:=hA5.drop (A:=[904]) (B':=imS se ty (va++[⟨d.name,x.name,x.shape⟩]) d) hl ht (fun i hi=>by rw[OE.1 hi];rfl) (fun i hi=>by
   have hi:¬904=i:=fun q=>hi (OE.2 q.symm);rw[aI,NU (by simpa using hi)]) rfl (fun i hi=>by
   rw[OE.1 hi]
   cases q:e 904 with
   |none=>rfl
   |some c=>obtain⟨c',h1,_⟩:=ha.ext.e 904 c q;have h1:e' 904=some c':=h1;rw[n904]at h1;cases h1)
 have hl2:=aJ hL2;have hD2:=aJ hK2;have hL5:=(hB5.block l hl2 hf4.no).trans hL2;have hK5:=(hB5.block D hD2 hg4.no).trans hK2;have hf6:=(hf4.after hB5 hl2).drop [904];have hg6:=(hg4.after hB5 hD2).drop [904]
 have hx6:=(hx4.trans hB5.ext).drop (A:=[904]) (fun i hi=>by
   rw[OE.1 hi];show e1 904=none
   cases q:e1 904 with
   |none=>rfl
   |some c=>obtain⟨c',h1,_⟩:=hx.e 904 c q;have h1:e' 904=some c':=h1;rw[n904]at h1;cases h1)
 have hl5:=aJ hL5;refine⟨_,_,run_endRound none hL5,rfl,⟨⟨_,_,hA6.post rfl rfl rfl (by rw[World.putObj_size];exact O7 _) (fun b hb=>?_),hx6.trans (Ext.world hA6.ok fun b hb=>?_),hf6,hg6⟩,World.putObj_heap_same hl5,(World.putObj_heap_other hlD).trans hK5⟩⟩
 ·by_cases q:b=l
  ·exact .inr (by rw[q];exact⟨hwl,hf6.no,hf6.np⟩)
  ·exact .inl (World.putObj_heap_other q)
 ·by_cases q:b=l
  ·exact .inr (by rw[q];exact hf6.np)
  ·exact .inl (World.putObj_heap_other q)
end
theorem NO{a:Array Value}(h:a.size=36):∃t0 t1 t2 t3 t4 t5 t6 t7 t8 t9 t10 t11 t12 t13 t14 t15 t16 t17 t18 t19 t20 t21 t22 t23 t24 t25 t26 t27 t28 t29 t30 t31 t32 t33 t34 t35:Value,a=(t0::t1::t2::t3::t4::t5::t6::t7::t8::t9::t10::t11::t12::t13::t14::t15::t16::t17::t18::t19::t20::t21::t22::t23::t24::t25::t26::t27::t28::t29::t30::t31::t32::t33::t34::t35::[]).toArray:=by
 obtain⟨l⟩:=a;have h:l.length=36:=h
 match l,h with
 |t0::t1::t2::t3::t4::t5::t6::t7::t8::t9::t10::t11::t12::t13::t14::t15::t16::t17::t18::t19::t20::t21::t22::t23::t24::t25::t26::t27::t28::t29::t30::t31::t32::t33::t34::t35::[],_=>exact⟨t0,t1,t2,t3,t4,t5,t6,t7,t8,t9,t10,t11,t12,t13,t14,t15,t16,t17,t18,t19,t20,t21,t22,t23,t24,t25,t26,t27,t28,t29,t30,t31,t32,t33,t34,t35,rfl⟩
theorem uP(hS:bH Tryz.prog imC.spec)(se:Str)(ty va:List Bndg)(d:Depd)(ho:ty.length<=500000/\va.length<=500000/\d.items.length<=4000/\∀x∈d.items,allS nmU x.shape=true) :
  ak Tryz.prog 23 [.ptr 900 0,.st .dep d] (ck1 se ty va) ⟨some (ty.length<=500000/\va.length<=500000/\d.items.length<=4000/\∀x∈d.items,allS nmU x.shape=true),none,.tup [],[(900,.box (.agg [.str se,.lst (.st .bind) (ty++aP d.name d.items) (some 901),.lst (.st .bind) (va++bW d.name d.items) (some 902),.nils,.map 903])),(901,.tail (.st .bind) (ty.length+(aP d.name d.items).length)),(902,.tail (.st .bind) (va.length+(bW d.name d.items).length))]⟩:=by
 obtain⟨o1,o2,o3,o4⟩:=ho;intro w pub e vs hp ht hv hs hdom hinj
 have hl:∀id c,e id=some c->bc id=true:=by
  intro id c hc
  cases hg:aj (ck1 se ty va) id with
  |none=>rw[hdom id hg]at hc;cases hc
  |some o=>have:(aN (ck1 se ty va)).all bc=true:=rfl;exact O5.1 this id (Ot.2 ⟨(id,o),ca _ _ _ hg,rfl⟩)
 obtain⟨ty',hty⟩:∃ty',ty++aP d.name d.items=ty':=⟨_,rfl⟩;have h0:=Nf se ty va d o3 o4 o1;rw[hty]at h0
 suffices key:∀R:Ending->World->Prop,(∀W pub' e',After w pub e (aj (ck1 se ty' (va++bW d.name d.items))) W pub' e'->R (.returned (.tuple #[])) W)->CallsIn Fence.wide 2 Tryz.prog 23 vs.toArray w R by refine callsIn_wide.1 (key _ fun W pub' e' ha=>⟨pub',e',show _/\_/\_ from⟨fun b pv u q=>(by cases q),V.tup [] [] rfl (fun j c v h=>by simp at h),?_⟩⟩);rw[<-Oc,<-Oc,hty];exact ha
 intro R hR;refine callsIn_of_wp_marks Tryz.func23 M9 trivial ?_ rfl;have hh:=jc (n:=36) hp ht hv (show 2<=36 by omega) hs hdom hinj hl;have d0:bB 36 im0=true:=by kernel_rfl
 have d1:bB 36 im1=true:=by kernel_rfl
 have d2:bB 36 im2=true:=by kernel_rfl
 refine wpIn_seq (wpIn_mono (wpIn_wide.2 (gR (F:=⟨w,pub,36,e,hl,[],ht⟩) mixed uh hS [2,3,24] ⟨[],[],[]⟩ im0 _ _ _ _ h0 d0 hh)) ?_);rintro en a1 w1 ⟨x1,s1,Ω1,hx1,rfl,hh1,hq1⟩
 cases x1 with
 |exit _=>exact hq1.elim
 |ret=>exact hq1.elim
 |pan _=>exact hq1.elim
 |normal=>
 cases hx1;have hq1:=(Ng s1 _).mp hq1;refine wpIn_seq (wpIn_mono (wpIn_wide.2 (gR (F:=⟨w,pub,36,e,hl,[],ht⟩) mixed uh hS [2,3,24] ⟨[],[],[]⟩ im1 _ _ _ _ hq1 d1 hh1)) ?_);rintro en a2 w2 ⟨x2,s2,Ω2,hx2,rfl,hh2,hq2⟩
 cases x2 with
 |exit _=>exact hq2.elim
 |ret=>exact hq2.elim
 |pan _=>exact hq2.elim
 |normal=>
 cases hx2;have hq2:=(Nh s2 _).mp hq2;refine wpIn_seq (wpIn_mono (wpIn_wide.2 (gR (F:=⟨w,pub,36,e,hl,[],ht⟩) mixed uh hS [2,3,24] ⟨[],[],[]⟩ im2 _ _ _ _ hq2 d2 hh2)) ?_);rintro en a3 w3 ⟨x3,s3,Ω3,hx3,rfl,hh3,hq3⟩
 cases x3 with
 |exit _=>exact hq3.elim
 |ret=>exact hq3.elim
 |pan _=>exact hq3.elim
 |normal=>
 cases hx3;obtain⟨Ω4,e4,hh4⟩:=dx hh3 (gu (show cS s3 _ from hq3));show(Code.block 0 _).wpIn _ _ _ _ a3 Ω3.w;rw[<-e4];clear hh1 hh2 hh3 hq1 hq2 hq3 h0 d0 d1 d2 e4;obtain⟨tm3,df3⟩:=a3;have hdf:df3=[]:=hh4.defers;subst hdf;obtain⟨t0,t1,t2,t3,t4,t5,t6,t7,t8,t9,t10,t11,t12,t13,t14,t15,t16,t17,t18,t19,t20,t21,t22,t23,t24,t25,t26,t27,t28,t29,t30,t31,t32,t33,t34,t35,rfl⟩:=NO hh4.size;have v2:V Ω4 (.ptr 2 0) t2:=hh4.tmps 2;have v3:V Ω4 (.ptr 3 0) t3:=hh4.tmps 3;have v24:V Ω4 (.fn 98 [.ptr 2024 0]) t24:=hh4.tmps 24;obtain⟨bK,oK,eK,hcK⟩:=hh4.slots 2024 _ rfl;obtain⟨_,_,_,vK,cK,VK⟩:=hcK 0 (.lst (.st .item) d.items none) rfl;obtain⟨us,rfl,hus⟩:=v24.fn_inv;obtain⟨u,rfl⟩:=jd hus.1.symm;obtain⟨b',o',len',rfl,hb'⟩:=(hus.2 0 _ u rfl rfl).ptr_inv;rw[show Ω4.e 2024=_ from eK]at hb';cases hb';have hA0:After w pub e (aj ((2,.box (.ptr 900 0))::(3,.box (.st .dep d))::(2024,.box (.lst (.st .item) d.items none))::ck1 se ty' va)) Ω4.w Ω4.pub Ω4.e:=fy hh4;obtain⟨bC,oC,eC,hA1⟩:=hA0.move (id:=2) (id':=905) hl ht rfl rfl rfl rfl (fun i hi=>by simp[ids]at hi;omega) (fun c' hc i hi=>by simp[ae]at hc;subst hc;exact hi)
 obtain⟨bD,oD,eD,hA2⟩:=(hA1.swapL rfl).move (id:=3) (id':=906) hl ht rfl rfl rfl rfl (fun i hi=>by simp[ids]at hi) (fun c' hc i hi=>by
  have hc:c'∈[.str d.name,.lst (.st .item) d.items none]:=hc;simp only[O1,Pu,R8]at hc;rcases hc with rfl|rfl<;>simp[ids]at hi)
 have eD:Ω4.e 3=some (.box bD oD (ae (.st .dep d)).length):=eD
 have hA3:=hA2.drop (A:=[2024]) (B':=imS se ty' va d) hl ht (fun i hi=>by rw[OE.1 hi];rfl) (fun i hi=>by
   have hi:¬2024=i:=fun q=>hi (OE.2 q.symm);simp only[imS,aI];by_cases q:906=i
   ·subst q;rfl
   ·by_cases q':905=i
    ·subst q';rfl
    ·simp[q,q',hi]) rfl (fun i hi=>by
   rw[OE.1 hi]
   cases q:e 2024 with
   |none=>rfl
   |some c=>have:=hl 2024 c q;cases this)
 obtain⟨e5,he5⟩:∃e5:Nat->Option CObj,(fun i=>if i∈[2024]then none else if i=906 then some (.box bD oD (ae (.st .dep d)).length)else if i∈[3]then none else if i=905 then some (.box bC oC (ae (.ptr 900 0)).length)else if i∈[2]then none else Ω4.e i)=e5:=⟨_,rfl⟩;rw[he5]at hA3;have e905:e5 905=some (.box bC oC (ae (.ptr 900 0)).length):=by rw[<-he5];rfl
 have e906:e5 906=some (.box bD oD (ae (.st .dep d)).length):=by rw[<-he5];rfl
 clear hA0 hA1 hA2 he5;obtain⟨D,hD⟩:∃D,D=Ω4.w.heap.size:=⟨_,rfl⟩;obtain⟨tm,htm⟩:∃tm,tm=(t0::t1::t2::t3::t4::t5::t6::t7::t8::t9::t10::t11::t12::t13::t14::t15::t16::t17::t18::t19::t20::t21::t22::t23::.func (.func 98) #[] #[.pointer (some ⟨bK,oK+0,none⟩)]::t25::t26::t27::t28::t29::t30::t31::t32::t33::t34::t35::[]).toArray:=⟨_,rfl⟩;refine wpIn_block (wpIn_rangeFunc fun fn hfn=>?_);obtain⟨W1,hW1⟩:∃W1,(Ω4.w.alloc (.deferred (some []))).alloc (.loop (imR fn tm D .ready))=W1:=⟨_,rfl⟩;have old:∀b,b<Ω4.w.heap.size->W1.heap[b]?=Ω4.w.heap[b]?:=fun b hb=>by rw[<-hW1];exact(Below.heap_alloc _ _ b (by simp;omega)).trans (Below.heap_alloc _ _ b hb)
 have sz:W1.heap.size=D+2:=by rw[<-hW1,hD];simp
 have eos:W1.os=Ω4.w.os/\W1.tape=Ω4.w.tape/\W1.output=Ω4.w.output:=by rw[<-hW1];exact⟨rfl,rfl,rfl⟩
 have hL1:W1.heap[D+1]?=some (.loop (imR fn tm D .ready)):=by
  rw[<-hW1,hD];have:=World.alloc_heap_new (Ω4.w.alloc (.deferred (some []))) (.loop (imR fn tm Ω4.w.heap.size .ready))
  rwa [World.size_alloc]at this
 have hK1:W1.heap[D]?=some (.deferred (some [])):=by rw[<-hW1,hD];exact(Below.heap_alloc _ _ _ (by simp)).trans (World.alloc_heap_new Ω4.w _)
 have hX1:Ext ⟨e5,Ω4.w,Ω4.pub⟩ ⟨e5,W1,Ω4.pub⟩:=Ext.world hA3.ok fun b hb=>.inl (old b hb);have hA5:After w pub e (aj (imS se ty' va d)) W1 Ω4.pub e5:=hA3.post eos.1 eos.2.1 eos.2.2 (by omega) fun b hb=>.inl (old b hb)
 have far:∀b,Ω4.w.heap.size<=b->Foreign e5 Ω4.pub b:=fun b hb=>⟨fun o ho=>by have:=hA3.blk ho;omega,fun o hp=>by
  obtain⟨u,hu⟩:=hA3.ok _ _ hp;have:=aD hu;omega⟩
 have hsz:=hA3.size;have VK1:V ⟨e5,W1,Ω4.pub⟩ (.lst (.st .item) d.items none) vK:=(VK.data (τ:=.lst (.st .item)) (x:=d.items) (e':=e5)).ext hX1;obtain⟨q,cap,b,off,vals,rfl,hvals⟩:=Ku VK1;have w2:V ⟨e5,W1,Ω4.pub⟩ (.ptr 905 0) t2:=by obtain⟨b',o',len',rfl,hb'⟩:=v2.ptr_inv;rw[eC]at hb';cases hb';exact V.ptr 905 0 bC oC _ e905
 have w3:V ⟨e5,W1,Ω4.pub⟩ (.ptr 906 0) t3:=by obtain⟨b',o',len',rfl,hb'⟩:=v3.ptr_inv;rw[eD]at hb';cases hb';exact V.ptr 906 0 bD oD _ e906
 have e98:∀args w,(callFunc 98 args).run Tryz.prog w=.ok (.enter 98 args) w:=enters_of Tryz.func98 (by kernel_rfl) rfl;refine⟨D+1,[{target:=.collected D,args:=#[]}],W1,{target:=.fn (.func 98) #[.pointer (some ⟨bK,oK+0,none⟩)],args:=#[.func (.yield (D+1)) #[] #[]]},W1,98,#[.func (.yield (D+1)) #[] #[]]++#[.pointer (some ⟨bK,oK+0,none⟩)],W1,?_,?_,fun _ _=>trivial,?_,fun q=>(by cases q),?_⟩
 ·rw[<-hW1,hD,htm];exact run_enterLoop_outer _ _ _ _ _
 ·simp[resolve,go_sem]
 ·simp[invoke,go_sem,e98]
 ·have hJ0:ImJ w pub e W1 Ω4.pub e5 fn tm (D+1) D (imS se ty' (va++bW d.name (d.items.take 0)) d) W1:=by rw[PD];simp only[bW,P0];exact⟨⟨Ω4.pub,e5,hA5,Ext.refl _,far _ (by omega),far _ (by omega)⟩,hL1,hK1⟩
  have hlen:∀k,(va++bW d.name (d.items.take k)).length<=1000000:=fun k=>by
   have h1:=pZ d.name (d.items.take k);have h2:(d.items.take k).length<=d.items.length:=by simp;omega
   rw[Oc];omega
  have hcell:W1.cell? ⟨bK,oK+0,none⟩=some (.slice q d.items.length cap):=(ai (old bK (aD cK)) _).trans cK
  refine(Tryz.lets1 0 (D+1) d.items.length b off cap bK (oK+0) q vals (by omega) (fun k W=>ImJ w pub e W1 Ω4.pub e5 fn tm (D+1) D (imS se ty' (va++bW d.name (d.items.take k)) d) W)
   (fun k W hJ hk=>⟨(hvals k hk).1,fun j v hj=>?_⟩) (fun k W o hJ=>hJ.alloc o) (fun k W hJ hk h3=>?_) (fun k W hJ hk h3=>?_) W1 hcell hJ0).mono ?_
  ·obtain⟨⟨pub',e',_,hx,_⟩,_,_⟩:=hJ;obtain⟨p1,p2⟩:=(hvals k hk).2.2.2 j v hj;exact(hx.cell _ _ p1).trans p2
  ·rw[C5 d.name d.items k (dfl (.st .item)) hk,NU (by rw[<-(hvals k hk).2.1];exact h3),P0];exact hJ
  ·refine(Kv hS hl ht (by omega) (by omega) (by omega) htm w2 w3 (hvals k hk).2.2.1 (hlen k) hJ).mono ?_;rintro en W' ⟨h1,h2⟩;refine⟨h1,?_⟩;rw[C5 d.name d.items k (dfl (.st .item)) hk,NY (by rw[<-(hvals k hk).2.1];exact h3),<-Oz];exact h2
  ·rintro en W' ⟨⟨v0,rfl⟩,hJ⟩;rw[OO]at hJ;obtain⟨⟨pub',e',ha,hx,hf,hg⟩,hL,hK⟩:=hJ;refine⟨none,_,run_endLoop hL (by simp[imR]),?_⟩;obtain⟨W3,hW3⟩:∃W3,W'.putObj (D+1) (.loop {imR fn tm D .ready with state:=.exhausted})=W3:=⟨_,rfl⟩;show LeavesInM Fence.wide 2 Tryz.prog Tryz.f23 _ R [{target:=.collected D,args:=#[]}] .returning (W'.putObj (D+1) (.loop {imR fn tm D .ready with state:=.exhausted}));rw[hW3];have old3:∀b,b≠D+1->W3.heap[b]?=W'.heap[b]?:=fun b hb=>by rw[<-hW3];exact World.putObj_heap_other hb
   have sz3:W3.heap.size=W'.heap.size:=by rw[<-hW3,World.putObj_size]
   have eos3:W3.os=W'.os/\W3.tape=W'.tape/\W3.output=W'.output:=by rw[<-hW3];exact⟨rfl,rfl,rfl⟩
   have hK3:=(old3 D (by omega)).trans hK
   have ha3:After w pub e (aj (imS se ty' (va++bW d.name d.items) d)) W3 pub' e':=ha.post eos3.1 eos3.2.1 eos3.2.2 (by omega) fun b hb=>by
    by_cases q:b=D+1
    ·exact .inr (by rw[q];exact⟨by omega,hf.no,hf.np⟩)
    ·exact .inl (old3 b q)
   have ha4:After w pub e (aj (imS se ty' (va++bW d.name d.items) d)) (W3.putObj D (.deferred none)) pub' e':=ha3.post rfl rfl rfl (by rw[World.putObj_size];exact O7 _) fun b hb=>by
    by_cases q:b=D
    ·exact .inr (by rw[q];exact⟨by omega,hg.no,hg.np⟩)
    ·exact .inl (World.putObj_heap_other q)
   have none_of:∀i,bc i=true->aj (ck1 se ty va) i=none->e i=none:=fun i _ h=>hdom i h
   have ha5:=ha4.drop (A:=[906,905]) (B':=ck1 se ty' (va++bW d.name d.items)) hl ht (fun i hi=>by
     simp only[O1,Pu,R8]at hi;rcases hi with rfl|rfl<;>rfl) (fun i hi=>by
     simp only[O1,Pu,R8,Rr]at hi;have h1:¬906=i:=fun q=>hi.1 q.symm;have h2:¬905=i:=fun q=>hi.2 q.symm;simp only[imS,aI];simp[h1,h2]) rfl (fun i hi=>by
     simp only[O1,Pu,R8]at hi;rcases hi with rfl|rfl
     ·exact hdom 906 rfl
     ·exact hdom 905 rfl)
   refine⟨by simp,.inl ⟨_,_,rfl,run_takeDeferred hK3,?_⟩⟩;exact⟨_,results_none rfl _ _ _,hR _ _ _ ha5⟩
end Go.AL.Seat
end
section
namespace Go.AL.Seat
open Go Go.AL Go.Proofs Go.Pd
variable [Tabs] [SeatLaid]
theorem vI:ah Tryz.prog 23 (N6 fun se ty va d=>⟨some (ty.length<=500000/\va.length<=500000/\d.items.length<=4000/\∀x∈d.items,allS nmU x.shape=true),none,.tup [],[(900,.box (.agg [.str se,.lst (.st .bind) (ty++aP d.name d.items) (some 901),.lst (.st .bind) (va++bW d.name d.items) (some 902),.nils,.map 903])),(901,.tail (.st .bind) (ty.length+(aP d.name d.items).length)),(902,.tail (.st .bind) (va.length+(bW d.name d.items).length))]⟩):=
 LF (ee Tryz.func23) fun se ty va d hd ho=>uP (sc Eu (sc HM (sc qQ sn))) se ty va d (ho _ rfl)
end Go.AL.Seat
end
noncomputable section
namespace Go.Pd
open Go Go.AL
theorem C6:∀(l:List AL.Item)(n:Int),0<=n->(rh l n).2=true->n+20 *(l.length:Int)<=(rh l n).1/\(rh l n).1<=max n 4000
 |[],n,h0,_=>by simp[rh];omega
 |x::r,n,h0,h=>by
  rw[rh]at h⊢;have hb:1<=sizeF x.shape 800:=(sizeF_bd x.shape 800 (by omega)).1;split at h
  ·cases h
  ·rename_i c;rw[NU c];obtain⟨h1,h2⟩:=C6 r _ (by omega) h;rw[O2];exact⟨by omega,by omega⟩
theorem C7:∀(l:List Depd)(n i:Int),0<=n->n<=4000->iD l n i=true->∀d∈l,d.items.length<=4000
 |d::r,n,i,h0,h1,h,e,he=>by
  rw[iD]at h;split at h
  ·cases h
  ·split at h
   ·rename_i c;obtain⟨k1,k2⟩:=C6 d.items n h0 c;rcases O1.1 he with rfl|he
    ·omega
    ·exact C7 r _ _ (by omega) (by omega) h e he
   ·cases h
theorem C8:∀(l:List Depd)(n i:Int),iD l n i=true->l=[]∨i+(l.length:Int)<=20
 |[],_,_,_=>.inl rfl
 |d::r,n,i,h=>by
  rw[iD]at h;split at h
  ·cases h
  ·split at h
   ·rcases C8 r _ _ h with q|q
    ·subst q;right;simp only[O2,OH];omega
    ·right;rw[O2];omega
   ·cases h
end Go.Pd
end
section
open Go Go.AL Go.Pd
namespace Go.AL.Seat
theorem Ew(bL:List Bndg)(m:Modu)(ds:List Depd)(r:ExC)(hm:Wf (.st .modu) m)(hd:Wf (.lst (.st .dep)) ds)(hb:bL.length<=100)(ho:((m.decls.all di=true/\m.decls.length<=1000000)/\m.decls.length<=100000/\∀d∈ds,d.items.length<=4000/\∀x∈d.items,allS nmU x.shape=true))(hr:me bL m ds=r) :
  let A:=(1000000:Nat);let B:=(0:Int);let C:=True;let D:=r.l=[];let E:=B=r.f.pos/\C;let F:=(4000:Nat);let G:=(100:Nat);let H:=vt bL m.name;let I:=m=m;let J:=ds=ds;let K:=bS m=bS m;let L:=false=false;let M:=m.imports=m.imports;let N:=(↑(List.length m.imports):Int);let O:=N=N;let P:=m.name=m.name;let Q:=(0:Nat);let R:=B=B;let S:=den Ty.str×den (Ty.st SN.item);let T:=fA S=fA S;let U:=I/\R/\R/\T/\C;let V:=dfl (Ty.st SN.imp);let W:=(-1:Int);let X:=true=true;let Y:=(↑(List.length ds):Int);let Z:=dfl (Ty.st SN.dep);let a:=(1:Int);let b:=(500000:Nat);let d:=(100000:Nat);let g:=m.decls=m.decls;let h:=(↑(List.length m.decls):Int);let i:=I/\R/\R/\C;let j:=dfl (Ty.st SN.decl);let k:=(fun(x:AL.Item)=>x.name);let n:=(ez m.decls {e:=(gV ds m.imports H).e,m:=[]:Cst});let o:=m.exports=m.exports;let p:=(↑(List.length m.exports):Int);let q:=dfl Ty.str;(List.all m.decls di=true/\List.length m.decls<=A)/\if(!decide (bS m=B))=true then C/\D/\bS m=r.f.err/\E else(∃(x:Nat×List Bndg×List Bndg),(x.1<=List.length m.imports/\List.length x.2.1<=x.1*F/\List.length x.2.2<=G+x.1*F/\gV ds (List.drop x.1 m.imports) {self:=m.name,types:=x.2.1,values:=x.2.2,own:=[]:Envt}=gV ds m.imports H)/\B=(↑x.1:Int)/\I/\J/\K/\L/\M/\O/\P/\x.2.1=[]/\bL=x.2.2/\List.length x.2.1=Q/\List.length bL=List.length x.2.2/\U)/\∀(x:Nat×List Bndg×List Bndg),let s:=(↑x.1:Int);let t:=Int.toNat s;let u:=List.getD m.imports t V;let v:=s=s;let w:=List.length x.2.1=List.length x.2.1;let z:=List.length x.2.2=List.length x.2.2;let A0:=v/\I/\J/\K/\L/\M/\O/\X/\J/\Y=Y/\P/\x.2.1=x.2.1/\x.2.2=x.2.2/\w/\z/\I/\R/\R/\T/\List.getD m.imports t V=List.getD m.imports t V/\C;let A1:=w/\i;x.1<=List.length m.imports/\List.length x.2.1<=x.1*F/\List.length x.2.2<=G+x.1*F/\gV ds (List.drop x.1 m.imports) {self:=m.name,types:=x.2.1,values:=x.2.2,own:=[]:Envt}=gV ds m.imports H->if decide (s<N)=true then(B<=s/\s<N)/\(∃(x_1:Nat×Int),(x_1.1<=List.length ds/\jM u.name (List.drop x_1.1 ds) x_1.1 x_1.2=jM u.name ds Q W)/\B=(↑x_1.1:Int)/\W=x_1.2/\A0)/\∀(x_1:Nat×Int),let A2:=(↑x_1.1:Int);let A3:=inR IntKind.i64 (A2+a);let A4:=List.getD ds (Int.toNat x_1.2) Z;x_1.1<=List.length ds/\jM u.name (List.drop x_1.1 ds) x_1.1 x_1.2=jM u.name ds Q W->if decide (A2<Y)=true then(B<=A2/\A2<Y)/\if decide ((List.getD ds (Int.toNat A2) Z).name=u.name)=true then A3/\∃(y:Nat×Int),(y.1<=List.length ds/\jM u.name (List.drop y.1 ds) y.1 y.2=jM u.name ds Q W)/\List.length ds-y.1<List.length ds-x_1.1/\A2+a=(↑y.1:Int)/\A2=y.2/\A0 else A3/\∃(y:Nat×Int),(y.1<=List.length ds/\jM u.name (List.drop y.1 ds) y.1 y.2=jM u.name ds Q W)/\List.length ds-y.1<List.length ds-x_1.1/\A2+a=(↑y.1:Int)/\x_1.2=y.2/\A0 else if decide (x_1.2<B)=true then C/\D/\(282:Int)=r.f.err/\u.pos=r.f.pos/\C else(B<=x_1.2/\x_1.2<Y)/\((w/\z)/\List.length x.2.1<=b/\List.length x.2.2<=b/\List.length A4.items<=F/\∀(x:AL.Item),x∈A4.items->allS nmU x.shape=true)/\inR IntKind.i64 (s+a)/\∃(y:Nat×List Bndg×List Bndg),(y.1<=List.length m.imports/\List.length y.2.1<=y.1*F/\List.length y.2.2<=G+y.1*F/\gV ds (List.drop y.1 m.imports) {self:=m.name,types:=y.2.1,values:=y.2.2,own:=[]:Envt}=gV ds m.imports H)/\List.length m.imports-y.1<List.length m.imports-x.1/\s+a=(↑y.1:Int)/\I/\J/\K/\L/\M/\O/\P/\x.2.1++aP A4.name A4.items=y.2.1/\x.2.2++bW A4.name A4.items=y.2.2/\List.length x.2.1+List.length (aP A4.name A4.items)=List.length y.2.1/\List.length x.2.2+List.length (bW A4.name A4.items)=List.length y.2.2/\U else(∃(x_1:Nat×Cst),(x_1.1<=List.length m.decls/\List.length x_1.2.e.types<=d+x_1.1/\List.length x_1.2.e.values<=d+x_1.1/\List.length x_1.2.e.own<=x_1.1/\ez (List.drop x_1.1 m.decls) x_1.2=ez m.decls {e:=(gV ds m.imports H).e,m:=[]:Cst})/\B=(↑x_1.1:Int)/\v/\I/\J/\K/\L/\M/\O/\L/\g/\h=h/\m.name=x_1.2.e.self/\x.2.1=x_1.2.e.types/\x.2.2=x_1.2.e.values/\x_1.2.e.own=[]/\List.length x.2.2=List.length x_1.2.e.values/\List.length x_1.2.e.own=Q/\[]=x_1.2.m/\A1)/\∀(x_1:Nat×Cst),let A2:=(↑x_1.1:Int);let A3:=List.length x_1.2.e.values=List.length x_1.2.e.values;let A4:=List.length x_1.2.e.own=List.length x_1.2.e.own;let A5:=List.getD m.decls (Int.toNat A2) j;let A6:=kY A5 x_1.2;let A7:=x_1.2.e.self=x_1.2.e.self/\x_1.2.e.types=x_1.2.e.types/\x_1.2.e.values=x_1.2.e.values/\x_1.2.e.own=x_1.2.e.own/\A3/\A4/\x_1.2.m=x_1.2.m/\A1;x_1.1<=List.length m.decls/\List.length x_1.2.e.types<=d+x_1.1/\List.length x_1.2.e.values<=d+x_1.1/\List.length x_1.2.e.own<=x_1.1/\ez (List.drop x_1.1 m.decls) x_1.2=ez m.decls {e:=(gV ds m.imports H).e,m:=[]:Cst}->if decide (A2<h)=true then(B<=A2/\A2<h)/\((A3/\A4)/\(A5.kind=a∨A5.kind=(2:Int)∨A5.kind=(3:Int))/\(A5.kind=(3:Int)->cm A5.term=true)/\List.length x_1.2.e.types<=A/\List.length x_1.2.e.values<=A/\List.length x_1.2.e.own<=A)/\if(!decide (A6.f.err=B))=true then C/\D/\A6.f.err=r.f.err/\A6.f.pos=r.f.pos/\C else inR IntKind.i64 (A2+a)/\∃(y:Nat×Cst),(y.1<=List.length m.decls/\List.length y.2.e.types<=d+y.1/\List.length y.2.e.values<=d+y.1/\List.length y.2.e.own<=y.1/\ez (List.drop y.1 m.decls) y.2=ez m.decls {e:=(gV ds m.imports H).e,m:=[]:Cst})/\List.length m.decls-y.1<List.length m.decls-x_1.1/\A2+a=(↑y.1:Int)/\v/\I/\J/\K/\L/\M/\O/\L/\g/\h=h/\A6.c.e.self=y.2.e.self/\A6.c.e.types=y.2.e.types/\A6.c.e.values=y.2.e.values/\A6.c.e.own=y.2.e.own/\List.length A6.c.e.values=List.length y.2.e.values/\List.length A6.c.e.own=List.length y.2.e.own/\A6.c.m=y.2.m/\A1 else(∃(x_2:Nat×List AL.Item),let A8:=List.length x_2.2=Q;(x_2.1<=List.length m.exports/\List.length x_2.2=x_2.1/\List.map k x_2.2=List.take x_2.1 m.exports/\ri m.pos n.c.m (List.drop x_2.1 m.exports) x_2.2=ri m.pos n.c.m m.exports [])/\B=(↑x_2.1:Int)/\A8/\A8/\A2=A2/\v/\I/\J/\K/\L/\M/\O/\L/\g/\h=h/\L/\o/\p=p/\A8/\x_2.2=[]/\A7)/\
  ∀(x_2:Nat×List AL.Item),let A8:=(↑x_2.1:Int);let A9:=cw x_1.2.m (List.getD m.exports (Int.toNat A8) q);let B0:=List.length x_2.2=List.length x_2.2;let B1:=[Option.getD A9 {kind:=B,name:=[],shape:=AL.Shape.mk (B) ([]) ([]) ([]) ([]):AL.Item}];x_2.1<=List.length m.exports/\List.length x_2.2=x_2.1/\List.map k x_2.2=List.take x_2.1 m.exports/\ri m.pos n.c.m (List.drop x_2.1 m.exports) x_2.2=ri m.pos n.c.m m.exports []->if decide (A8<p)=true then(B<=A8/\A8<p)/\if(!Option.isSome A9)=true then C/\D/\(150:Int)=r.f.err/\m.pos=r.f.pos/\C else((B0/\B0)/\(List.length x_2.2+List.length B1)*(112:Nat)<=(140737488355328:Nat))/\inR IntKind.i64 (A8+a)/\∃(y:Nat×List AL.Item),let B2:=List.length x_2.2+List.length B1=List.length y.2;(y.1<=List.length m.exports/\List.length y.2=y.1/\List.map k y.2=List.take y.1 m.exports/\ri m.pos n.c.m (List.drop y.1 m.exports) y.2=ri m.pos n.c.m m.exports [])/\List.length m.exports-y.1<List.length m.exports-x_2.1/\A8+a=(↑y.1:Int)/\B2/\List.length (x_2.2++B1)=List.length y.2/\A2=A2/\v/\I/\J/\K/\L/\M/\O/\L/\g/\h=h/\L/\o/\p=p/\B2/\x_2.2++B1=y.2/\A7 else((B0/\B0)/\List.Nodup (List.map (fun(x:den (Ty.st SN.item))=>x.name) x_2.2)/\List.length x_2.2<=A)/\((B0/\List.length x_2.2=List.length (AT x_2.2))/\C)/\C/\AT x_2.2=r.l/\B=r.f.err/\E:=by
 conv=>zeta
 obtain⟨om,od,oi⟩:=ho;have li:=hm.modu_imports.len;have lx:=hm.modu_exports.len;have ld:=hd.len;unfold me at hr;simp only[Oa,Pn,OM,OD,Ov];refine⟨om,aa (fun h=>?_) (fun h=>?_)⟩
 ·have h:¬bS m=0:=by simpa using h
  rw[NU h]at hr;subst hr;exact(by repeat' (first|exact trivial|rfl|apply And.intro))
 have h0:bS m=0:=by simpa using h
 rw[NY h0]at hr;obtain⟨c8,c60,cnd,ckd⟩:=Be h0;unfold Jy at hr;obtain⟨I,hI⟩:∃I,I=gV ds m.imports (vt bL m.name):=⟨_,rfl⟩;simp only[<-hI]at hr⊢;refine⟨⟨(0,[],bL),⟨O9 _,by simp,by simp only;omega,by rw[hI];rfl⟩,(by repeat' (first|exact trivial|rfl|apply And.intro))⟩,?_⟩;rintro⟨k,ty,va⟩ ⟨h1,h2,h3,h4⟩;simp only at h1 h2 h3 h4⊢;apply aa<;>intro h
 ·have h:=Xo h;have hk:k<m.imports.length:=by omega
  rw[an m.imports k (dfl (.st .imp)) hk]at h4;simp only[gV]at h4;obtain⟨i,hi⟩:∃i,m.imports.getD k (dfl (.st .imp))=i:=⟨_,rfl⟩;simp only[hi]at h4⊢;refine⟨⟨by omega,h⟩,⟨(0,-1),⟨O9 _,rfl⟩,(by repeat' (first|exact trivial|rfl|apply And.intro))⟩,?_⟩;rintro⟨j,a⟩ ⟨g1,g2⟩;simp only at g1 g2⊢;apply aa<;>intro q
  ·have q:=Xo q;have hj:j<ds.length:=by omega
   rw[an ds j (dfl (.st .dep)) hj]at g2;simp only[jM]at g2;refine⟨⟨by omega,q⟩,aa (fun c=>?_) (fun c=>?_)⟩
   ·rw[NY (Xo c)]at g2;exact⟨aB hj ld,(j+1,j),⟨hj,g2⟩,by simp only;omega,by simp only;omega,rfl⟩
   ·rw[NU (fun e=>c (Xd e))]at g2;exact⟨aB hj ld,(j+1,a),⟨hj,g2⟩,by simp only;omega,by simp only;omega,rfl⟩
  ·have q:¬((j:Int)<(ds.length:Int)):=fun e=>q (Xd e);have e:j=ds.length:=by omega
   subst e;rw[Oe]at g2;simp only[jM]at g2;have sp:=wN i.name ds 0 (-1);rw[<-g2]at sp;apply aa<;>intro c
   ·have c:=Xo c;rcases sp with⟨e1,_⟩|⟨t,e1,e2,_⟩
    ·rw[e1]at h4;simp only at h4;rw[<-h4,NU (by show ¬(282:Int)=0;decide)]at hr;subst hr;exact(by repeat' (first|exact trivial|rfl|apply And.intro))
    ·omega
   ·have c:¬a<0:=fun e=>c (Xd e);rcases sp with⟨_,e2⟩|⟨t,e1,e2,e3⟩
    ·omega
    ·have ea:a.toNat=t:=by omega
     have ot:=oi _ (getD_mem ds t (dfl (.st .dep)) e1);rw[ea];rw[e3]at h4;simp only[impD]at h4;have tl:=kZ (ds.getD t (dfl (.st .dep))).name (ds.getD t (dfl (.st .dep))).items;have vl:=pZ (ds.getD t (dfl (.st .dep))).name (ds.getD t (dfl (.st .dep))).items;have hk4:k *4000<=32000:=by omega
     exact⟨by omega,⟨by omega,by omega,ot.1,ot.2⟩,aB hk li,(k+1,ty++_,va++_),⟨hk,by simp only[Oc];omega,by simp only[Oc];omega,h4⟩,by simp only;omega,by simp only;omega,rfl,rfl,by simp only[Oc],by simp only[Oc]⟩
 ·have h:¬((k:Int)<(m.imports.length:Int)):=fun e=>h (Xd e);have e0:k=m.imports.length:=by omega
  subst e0;rw[Oe]at h4;simp only[gV]at h4;simp only[<-h4]at hr⊢;rw[NY (show cY.err=0 from rfl)]at hr;obtain⟨D,hD⟩:∃D,D=ez m.decls ⟨⟨m.name,ty,va,[]⟩,[]⟩:=⟨_,rfl⟩;simp only[<-hD]at hr⊢;have its:Its D.c.m:=by rw[hD];exact AW _ LG
  have hk4:m.imports.length *4000<=32000:=by omega
  refine⟨⟨(0,⟨⟨m.name,ty,va,[]⟩,[]⟩),⟨O9 _,by simp only;omega,by simp only;omega,O7 _,hD.symm⟩,(by repeat' (first|exact trivial|rfl|apply And.intro))⟩,?_⟩;rintro⟨k,c⟩ ⟨h1,h5,h6,h7,h8⟩;simp only at h1 h5 h6 h7 h8⊢;apply aa<;>intro h
  ·have h:=Xo h;have hk:k<m.decls.length:=by omega
   have hmm:=getD_mem m.decls k (dfl (.st .decl)) hk;rw[an m.decls k (dfl (.st .decl)) hk]at h8;simp only[ez]at h8;obtain⟨d,hdd⟩:∃d,m.decls.getD k (dfl (.st .decl))=d:=⟨_,rfl⟩;simp only[hdd]at h8 hmm⊢;have gr:=N7 d c;refine⟨⟨by omega,h⟩,⟨ckd d hmm,fun _=>(Au (O5.1 om.1 d hmm)).2,by omega,by omega,by omega⟩,aa (fun f=>?_) (fun f=>?_)⟩
   ·have f:¬(kY d c).f.err=0:=by simpa using f
    rw[NU f]at h8;rw[<-h8,NU f]at hr;subst hr;exact(by repeat' (first|exact trivial|rfl|apply And.intro))
   ·have f:(kY d c).f.err=0:=by simpa using f
    rw[NY f]at h8;exact⟨b8 (by omega) (by omega),(k+1,(kY d c).c),⟨hk,by have:=gr.ty;simp only;omega,by have:=gr.va;simp only;omega,by have:=gr.ow;simp only;omega,h8⟩,by simp only;omega,by simp only;omega,(by repeat' (first|exact trivial|rfl|apply And.intro))⟩
  ·have h:¬((k:Int)<(m.decls.length:Int)):=fun e=>h (Xd e);have e0:k=m.decls.length:=by omega
   subst e0;rw[Oe]at h8;simp only[ez]at h8;subst h8;rw[NY (show cY.err=0 from rfl)]at hr;simp only at hr its⊢;refine⟨⟨(0,[]),⟨O9 _,rfl,rfl,rfl⟩,(by repeat' (first|exact trivial|rfl|apply And.intro))⟩,?_⟩;rintro⟨k,xs⟩ ⟨g1,g2,g3,g4⟩;simp only at g1 g2 g3 g4⊢;apply aa<;>intro h
   ·have h:=Xo h;have hk:k<m.exports.length:=by omega
    rw[an m.exports k (dfl .str) hk]at g4;simp only[ri]at g4;obtain⟨n,hn⟩:∃n,m.exports.getD k (dfl .str)=n:=⟨_,rfl⟩;have tk:=cu m.exports k (dfl .str) hk;simp only[hn]at g4 tk⊢;refine⟨⟨by omega,h⟩,aa (fun q=>?_) (fun q=>?_)⟩
    ·have e1:cw (K:=Str) c.m n=none:=by
      cases z:cw (K:=Str) c.m n with
      |none=>rfl
      |some x=>rw[z]at q;cases q
     rw[e1]at g4;simp only at g4;rw[<-g4]at hr;subst hr;exact(by repeat' (first|exact trivial|rfl|apply And.intro))
    ·obtain⟨x,z⟩:∃x,cw (K:=Str) c.m n=some x:=by
      cases z:cw (K:=Str) c.m n with|none=>rw[z]at q;exact absurd rfl q|some x=>exact⟨x,rfl⟩
     rw[z]at g4;simp only at g4;simp only[z,OR];refine⟨by omega,aB hk lx,(k+1,xs++[x]),⟨hk,by simp only[Oc,Ov];omega,?_,g4⟩,by simp only;omega,by simp only;omega,by simp only[Oc,Ov],by simp only[Oc,Ov],by simp only[Oc,Ov];exact(by repeat' (first|exact trivial|rfl|apply And.intro))⟩;rw[tk,<-g3,PL,Qy,Lx its z]
   ·have h:¬((k:Int)<(m.exports.length:Int)):=fun e=>h (Xd e);have e0:k=m.exports.length:=by omega
    subst e0;rw[Oe]at g4;simp only[ri]at g4;rw[<-g4]at hr;unfold endI at hr;rw[NY (show cY.err=0 from rfl)]at hr;subst hr;rw[OO]at g3;exact⟨⟨by show(xs.map (·.name)).Nodup;rw[g3];exact cnd,by omega⟩,by rw[AT,List.length_mergeSort],(by repeat' (first|exact trivial|rfl|apply And.intro))⟩
end Go.AL.Seat
end
section
open Go Go.AL Go.Proofs Go.Shelf Go.Pd
namespace Go.AL.Seat
variable [Tabs]
variable [SeatLaid]
theorem Ex:Enters Tryz.prog 9:=ee Tryz.func9
theorem vJ(bL:List Bndg)(m:Modu)(ds:List Depd)(r:ExC)(hm:Wf (.st .modu) m)(hd:Wf (.lst (.st .dep)) ds)(hb:bL.length<=100)(ho:((m.decls.all di=true/\m.decls.length<=1000000)/\m.decls.length<=100000/\∀d∈ds,d.items.length<=4000/\∀x∈d.items,allS nmU x.shape=true))(hr:me bL m ds=r)(hB:ah Tryz.prog 22 (p0 ⟨none,none,.lst (.st .bind) bL (some 61),[(61,.tail (.st .bind) bL.length)]⟩)):ak Tryz.prog 9 [.st .modu m,.lst (.st .dep) ds none] [] (⟨some ((m.decls.all di=true/\m.decls.length<=1000000)/\m.decls.length<=100000/\∀d∈ds,d.items.length<=4000/\∀x∈d.items,allS nmU x.shape=true),none,.tup [.lst (.st .item) r.l none,.agg [.int .i64 r.f.err,.int .i64 r.f.pos]],[]⟩):=
 g1 nn (fun _=>[]) nn (fun d=>Nat.beq d 107) nn (sc (uM) (sc (hB) (sc (vI) (sc (vH) (sc (GQ) sn))))) ⟨[(6,fun S0=>⟨Nat×(List Bndg×List Bndg),fun x=>x.1<=m.imports.length/\x.2.1.length<=x.1 *4000/\x.2.2.length<=100+x.1 *4000/\gV ds (m.imports.drop x.1) ⟨m.name,x.2.1,x.2.2,[]⟩=(gV ds m.imports (vt bL m.name)),fun x=>[(38,.int .i64 x.1)],fun x=>[(34,.box (.agg [.str m.name,.lst (.st .bind) x.2.1 (some 701),.lst (.st .bind) x.2.2 (some 62029),.nils,.map 32])),(701,.tail (.st .bind) x.2.1.length),(62029,.tail (.st .bind) x.2.2.length)],fun x=>m.imports.length-x.1⟩),(10,fun S0=>qh S0 38 fun i=>⟨Nat×Int,fun x=>x.1<=ds.length/\jM (m.imports.getD i.toNat (dfl (.st .imp))).name (ds.drop x.1) x.1 x.2=jM (m.imports.getD i.toNat (dfl (.st .imp))).name ds 0 (-1),fun x=>[(44,.int .i64 x.1),(10,.int .i64 x.2)],fun _=>[],fun x=>ds.length-x.1⟩),(20,fun S0=>⟨Nat×Cst,fun x=>x.1<=m.decls.length/\x.2.e.types.length<=100000+x.1/\x.2.e.values.length<=100000+x.1/\x.2.e.own.length<=x.1/\ez (m.decls.drop x.1) x.2=(ez m.decls ⟨(gV ds m.imports (vt bL m.name)).e,[]⟩),fun x=>[(71,.int .i64 x.1)],fun x=>[(34,.box (.agg [.str x.2.e.self,.lst (.st .bind) x.2.e.types none,.lst (.st .bind) x.2.e.values (some 62029),.lst (.st .bind) x.2.e.own (some 702),.map 32])),(62029,.tail (.st .bind) x.2.e.values.length),(702,.tail (.st .bind) x.2.e.own.length),(32,.map .str (.st .item) x.2.m)],fun x=>m.decls.length-x.1⟩),(28,fun S0=>⟨Nat×List AL.Item,fun x=>x.1<=m.exports.length/\x.2.length=x.1/\x.2.map (·.name)=m.exports.take x.1/\ri m.pos (ez m.decls ⟨(gV ds m.imports (vt bL m.name)).e,[]⟩).c.m (m.exports.drop x.1) x.2=ri m.pos (ez m.decls ⟨(gV ds m.imports (vt bL m.name)).e,[]⟩).c.m m.exports [],fun x=>[(86,.int .i64 x.1),(16,.glst x.2.length x.2.length 703)],fun x=>[(703,.grow (.st .item) x.2.length x.2)],fun x=>m.exports.length-x.1⟩)],[(400036,[703,16])],[]⟩ Tryz.func9 (Ew bL m ds r hm hd hb ho hr)
theorem C9(bL:List Bndg)(hb:bL.length<=100)(hB:ah Tryz.prog 22 (p0 ⟨none,none,.lst (.st .bind) bL (some 61),[(61,.tail (.st .bind) bL.length)]⟩)):ah Tryz.prog 9 (p2 (.st .modu) (.lst (.st .dep)) fun m ds=>⟨some ((m.decls.all di=true/\m.decls.length<=1000000)/\m.decls.length<=100000/\∀d∈ds,d.items.length<=4000/\∀x∈d.items,allS nmU x.shape=true),none,.tup [.lst (.st .item) (me bL m ds).l none,.agg [.int .i64 (me bL m ds).f.err,.int .i64 (me bL m ds).f.pos]],[]⟩):=
 bT Ex fun m ds hm hd ho=>vJ bL m ds _ hm hd hb (ho _ rfl) rfl hB
end Go.AL.Seat
end
section
namespace Go.Proofs
open Go.Shelf
def Tryz.sortfU_ren:Go.Shelf.Ren:=⟨fun|6=>77|15=>63|14=>134|28=>113|29=>114|20=>174|21=>175|22=>176|23=>177|24=>178|25=>179|26=>180|27=>181|46=>226|47=>152|48=>153|49=>227|50=>228|57=>268|n=>n,fun|22=>54|24=>97|25=>108|3=>3|39=>136|0=>0|53=>187|55=>189|4=>4|46=>180|45=>179|50=>184|5=>5|9=>9|66=>228|70=>232|76=>270|77=>217|n=>n,fun|n=>n⟩
theorem Tryz.sortfU:Go.Proofs.SlLaysF0.n6 Tryz.prog Tryz.sortfU_ren:={
 mixed:=by kernel_rfl
 f6:=⟨Tryz.f77.name,by decide,Xt Tryz.func77⟩
 f14:=⟨Tryz.f134.name,by decide,Xt Tryz.func134⟩
 f15:=Xt Tryz.func63
 f20:=⟨Tryz.f174.name,by decide,Xt Tryz.func174⟩
 f21:=⟨Tryz.f175.name,by decide,Xt Tryz.func175⟩
 f22:=⟨Tryz.f176.name,by decide,Xt Tryz.func176⟩
 f23:=⟨Tryz.f177.name,by decide,Xt Tryz.func177⟩
 f24:=⟨Tryz.f178.name,by decide,Xt Tryz.func178⟩
 f25:=⟨Tryz.f179.name,by decide,Xt Tryz.func179⟩
 f26:=⟨Tryz.f180.name,by decide,Xt Tryz.func180⟩
 f27:=⟨Tryz.f181.name,by decide,Xt Tryz.func181⟩
 f28:=Xt Tryz.func113
 f29:=Xt Tryz.func114
 f46:=⟨Tryz.f226.name,by decide,Xt Tryz.func226⟩
 f47:=Xt Tryz.func152
 f48:=Xt Tryz.func153
 f49:=⟨Tryz.f227.name,by decide,Xt Tryz.func227⟩
 f50:=⟨Tryz.f228.name,by decide,Xt Tryz.func228⟩
 f57:=⟨Tryz.f268.name,by decide,Xt Tryz.func268⟩
 t0:=Tryz.underlying0
 a0:=Tryz.isAgg0
 z0:=Tryz.sizeOf0
 v0:=Tryz.zeroValue0
 t3:=Tryz.underlying3
 a3:=Tryz.isAgg3
 z3:=Tryz.sizeOf3
 v3:=Tryz.zeroValue3
 t4:=Tryz.underlying4
 a4:=Tryz.isAgg4
 z4:=Tryz.sizeOf4
 v4:=Tryz.zeroValue4
 t5:=Tryz.underlying5
 a5:=Tryz.isAgg5
 z5:=Tryz.sizeOf5
 v5:=Tryz.zeroValue5
 t9:=Tryz.underlying9
 a9:=Tryz.isAgg9
 z9:=Tryz.sizeOf9
 v9:=Tryz.zeroValue9
 t22:=Tryz.underlying54
 a22:=Tryz.isAgg54
 z22:=Tryz.sizeOf54
 v22:=Tryz.zeroValue54
 t25:=Tryz.underlying108
 a25:=Tryz.isAgg108
 z25:=Tryz.sizeOf108
 v25:=Tryz.zeroValue108
 t39:=Tryz.underlying136
 a39:=Tryz.isAgg136
 z39:=Tryz.sizeOf136
 v39:=Tryz.zeroValue136
 t45:=Tryz.underlying179
 a45:=Tryz.isAgg179
 z45:=Tryz.sizeOf179
 v45:=Tryz.zeroValue179
 t46:=Tryz.underlying180
 a46:=Tryz.isAgg180
 z46:=Tryz.sizeOf180
 v46:=Tryz.zeroValue180
 t50:=Tryz.underlying184
 a50:=Tryz.isAgg184
 z50:=Tryz.sizeOf184
 v50:=Tryz.zeroValue184
 t53:=Tryz.underlying187
 a53:=Tryz.isAgg187
 z53:=Tryz.sizeOf187
 v53:=Tryz.zeroValue187
 t55:=Tryz.underlying189
 a55:=Tryz.isAgg189
 z55:=Tryz.sizeOf189
 v55:=Tryz.zeroValue189
 t66:=Tryz.underlying228
 a66:=Tryz.isAgg228
 z66:=Tryz.sizeOf228
 v66:=Tryz.zeroValue228
 t70:=Tryz.underlying232
 a70:=Tryz.isAgg232
 z70:=Tryz.sizeOf232
 v70:=Tryz.zeroValue232
 t76:=Tryz.underlying270
 a76:=Tryz.isAgg270
 z76:=Tryz.sizeOf270
 v76:=Tryz.zeroValue270
 t77:=Tryz.underlying217
 a77:=Tryz.isAgg217
 z77:=Tryz.sizeOf217
 v77:=Tryz.zeroValue217}
end Go.Proofs
end
section
namespace Go.Proofs
open Go.RowKit Go.Shelf Go.AL Go.Sort Go.Pd Go.Lib
set_option maxHeartbeats 4000000
theorem Tryz.isNaN60(x:ByteArray)(w:World):Calls Tryz.prog 79 #[.string x] w fun e w'=>e=.returned (.bool false)/\w'=w:=by
 go_enter Tryz.func79,Tryz.ntmps79
 go_wp2
 go_ret
 exact⟨by simp,rfl⟩
theorem pa(t:TypeId)(a b:ByteArray):binOp .gtr t (.string a) (.string b)=pure (.bool !(Op.bytesLess a.toList b.toList||a.toList ==b.toList)):=by simp[binOp,Op.stringOp]
attribute [local go_sem] pa
theorem jD:∀a b:List UInt8,compareBytes a b=if Op.bytesLess a b=true then -1 else if(!(Op.bytesLess a b||a ==b))=true then 1 else 0
 |[],[]=>by simp[compareBytes,Op.bytesLess]
 |[],_::_=>by simp[compareBytes,Op.bytesLess]
 |_::_,[]=>by simp[compareBytes,Op.bytesLess]
 |a::r,b::s=>by
  simp only[compareBytes,Op.bytesLess];by_cases h1:a<b
  ·simp[h1]
  ·by_cases h2:b<a
   ·have:a≠b:=fun e=>by subst e;exact h1 h2
    simp[h1,h2,this]
   ·have:a=b:=Rx (R0.1 h2) (R0.1 h1);subst this;simp only[h1,OF,jD r s];simp
theorem Tryz.cmp31(x y:ByteArray)(w:World):Calls Tryz.prog 42 #[.string x,.string y] w fun e w'=>e=.returned (.int .i64 (compareBytes x.data.toList y.data.toList))/\w'=w:=by
 have e0:=jD x.toList y.toList;rw[Lib.toList_data,Lib.toList_data]at e0
 go_enter Tryz.func42,Tryz.ntmps42
 go_wp2_with (go_at_call 79;refine(Tryz.isNaN60 _ _).mono ?_;rintro e w' ⟨rfl,rfl⟩)
 all_goals (go_ret;refine⟨?_,rfl⟩;simp_all [Lib.toList_data])
theorem Tryz.or30(b o:Nat)(x y r:Int)(w:World)(hr:(if x=0 then y else x)=r)(h0:w.cell? ⟨b,o,none⟩=some (.int .i64 x))(h1:w.cell? ⟨b,o+1,none⟩=some (.int .i64 y)) :
  Calls Tryz.prog 41 #[.slice (some ⟨b,o,none⟩) 2 2] w fun e w'=>e=.returned (.int .i64 r)/\w'=w:=by
 subst hr
 go_enter Tryz.func41,Tryz.ntmps41
 go_wp2
 go_rounds 3
 all_goals (go_ret;simp_all)
theorem NP(w:World)(A B C:Obj):(((w.alloc A).alloc B).alloc C).drew=grow (w.drewN 1) #[A,B,C]:=by rw[alloc_eq_grow,alloc_eq_grow,alloc_eq_grow,grow_grow,grow_grow];rfl
theorem Tryz.cmp29(a1 a2 b1 b2:ByteArray)(r:Int)(hr0:(if compareBytes a1.data.toList b1.data.toList=0 then compareBytes a2.data.toList b2.data.toList else compareBytes a1.data.toList b1.data.toList)=r)(w:World) :
  Calls Tryz.prog 40 #[.agg #[.string a1,.string a2],.agg #[.string b1,.string b2]] w fun e w'=>e=.returned (.int .i64 r)/\∃q os',w'=grow (w.drewN q) os':=by
 go_enter Tryz.func40,Tryz.ntmps40
 go_wp2
 obtain⟨W,hW⟩:∃W,(w.alloc (.cells #[.string a1,.string a2] 97)).alloc (.cells #[.string b1,.string b2] 97)=W:=⟨_,rfl⟩;have h1:W.cell? ⟨w.heap.size,0,none⟩=some (.string a1):=by rw[<-hW];simp[go_sem]
 have h2:W.cell? ⟨w.heap.size,1,none⟩=some (.string a2):=by rw[<-hW];simp[go_sem]
 have h3:W.cell? ⟨w.heap.size+1,0,none⟩=some (.string b1):=by rw[<-hW];simp[go_sem]
 have h4:W.cell? ⟨w.heap.size+1,1,none⟩=some (.string b2):=by rw[<-hW];simp[go_sem]
 rw[hW];obtain⟨u,hu⟩:∃u,compareBytes a1.data.toList b1.data.toList=u:=⟨_,rfl⟩;obtain⟨v,hv⟩:=(⟨_,rfl⟩:∃v,compareBytes a2.data.toList b2.data.toList=v);have hr:(if u=0 then v else u)=r:=by rw[<-hu,<-hv];exact hr0
 clear hr0
 go_region_held3 (fun w'=>w'.cell? ⟨w.heap.size,0,none⟩=some (.string a1)/\w'.cell? ⟨w.heap.size,1,none⟩=some (.string a2)/\w'.cell? ⟨w.heap.size+1,0,none⟩=some (.string b1)/\w'.cell? ⟨w.heap.size+1,1,none⟩=some (.string b2)) (go_keep)
  (first|(go_at_call 42;refine(Tryz.cmp31 _ _ _).mono ?_;rintro e w' ⟨rfl,rfl⟩)|(go_at_call 41;refine(Tryz.or30 W.heap.size 0 u v r _ hr (by show(W.alloc _).cell? ⟨W.heap.size,0,none⟩=_;simp[go_sem]) (by show(W.alloc _).cell? ⟨W.heap.size,0+1,none⟩=_;simp[go_sem])).mono ?_;rintro e w' ⟨rfl,rfl⟩))
 go_wp2
 go_ret
 subst hW;exact⟨rfl,1,_,NP _ _ _ _⟩
def cfU(x y:Nam):Int:=if compareBytes x.pkg y.pkg=0 then compareBytes x.name y.name else compareBytes x.pkg y.pkg
def nv(x:Nam):List Value:=[.string ⟨x.pkg.toArray⟩,.string ⟨x.name.toArray⟩]
theorem Tryz.cmpLays(blk off size:Nat)(w:World):CmpLays Tryz.prog 40 #[] nv 2 cfU blk off size w:=fun m os dk _ x y=>
 Tryz.cmp29 ⟨x.pkg.toArray⟩ ⟨x.name.toArray⟩ ⟨y.pkg.toArray⟩ ⟨y.name.toArray⟩ _ rfl _
theorem jE:∀{a b:List UInt8},compareBytes a b=0->a=b
 |[],[],_=>rfl
 |[],_::_,h=>by simp[compareBytes]at h
 |_::_,[],h=>by simp[compareBytes]at h
 |a::r,b::s,h=>by
  simp only[compareBytes]at h;by_cases h1:a<b
  ·simp[h1]at h
  ·by_cases h2:b<a
   ·simp[h1,h2]at h
   ·have:a=b:=Rx (R0.1 h2) (R0.1 h1);subst this;simp only[h1,OF]at h;rw[jE h]
theorem pb(a:List UInt8):compareBytes a a=0:=by
 induction a with
 |nil=>rfl
 |cons x r ih=>simp[compareBytes,Q3,ih]
variable [Tabs]
theorem pc(x y:Nam):ltOf cfU x y=ltU x y:=by
 unfold ltOf cfU ltU;by_cases h:compareBytes x.pkg y.pkg=0
 ·have e:=jE h;rw[NY h,dy,e];simp[List.lt_irrefl]
 ·have e:x.pkg≠y.pkg:=fun q=>h (by rw[q];exact pb _);rw[NU h,dy];simp[e]
theorem swoU:SWO (ltOf cfU):=by
 refine⟨fun x=>by rw[pc,kV],fun x y z h k=>?_,fun x y z h k=>?_⟩
 ·rw[pc]at *;exact nW h k
 ·rw[pc]at *
  rcases PJ (ltU x z)with q|q
  ·rcases mL x y with t|t|t
   ·rw[t]at h;cases h
   ·subst t;rw[q]at k;cases k
   ·rw[nW t q]at k;cases k
  ·exact q
end Go.Proofs
end
section
namespace Go.Proofs
open Go.RowKit Go.Shelf Go.AL Go.Maps Go.ChangeMaps
variable [Tabs]
attribute [local go_sem] Oper.semAt_some
set_option maxHeartbeats 4000000
def qa(x:Nam):Value:=.agg #[.string ⟨x.pkg.toArray⟩,.string ⟨x.name.toArray⟩]
structure KeysU(es:Array MapEntry)(clock:Nat)(ks:List Nam):Prop where
 size:es.size=ks.length
 key:∀(i:Nat)(e:MapEntry)(k:Nam),es[i]?=some e->ks[i]?=some k->e.key=qa k
 idx:∀(i:Nat)(e:MapEntry),es[i]?=some e->e.born=i
 top:clock=es.size
theorem KeysU.old{es:Array MapEntry}{clock:Nat}{ks:List Nam}(h:KeysU es clock ks):∀x∈es.toList,x.born<clock:=fun x hx=>by
 obtain⟨i,hi,rfl⟩:=PU hx;have hi':i<es.size:=by simpa using hi
 have:=h.idx i es[i] (Ou hi');rw[Rb,this,h.top];exact hi'
theorem KeysU.nodup{es:Array MapEntry}{clock:Nat}{ks:List Nam}(h:KeysU es clock ks):(es.toList.map (·.born)).Nodup:=by
 rw[Pv,Q0,P4];intro i j hi hj hij e;have hi':i<es.size:=by simpa using hi
 have hj':j<es.size:=by simpa using hj
 have a:=h.idx i es[i] (Ou hi');have b:=h.idx j es[j] (Ou hj');simp only[Rb]at e;omega
def jF(ks:List Nam)(i:Nat):Nam:=ks.getD i default
def Mo(bm r:Nat)(w:World):Nat:=
 match w.heap[bm]?,w.heap[r]? with
 |some (.map es _),some (.mapIter _ _ seen _)=>(leftOf es seen).size
 |_,_=>0
theorem KeysU.done{es:Array MapEntry}{clock:Nat}{ks:List Nam}(h:KeysU es clock ks){seen:Array Nat}(hn:seen.toList.Nodup)(hb:∀i∈seen.toList,i<ks.length)(h0:(leftOf es seen).size=0) :
  (seen.toList.map (jF ks)).Perm ks:=by
 have all:∀i,i<ks.length->i∈seen.toList:=fun i hi=>by
  have hi':i<es.size:=by rw[h.size];exact hi
  rcases PJ (seen.contains i)with q|q
  ·simpa using q
  ·have hm:es[i]∈(leftOf es seen).toList:=by unfold leftOf;simp only[PV,OP];refine⟨by simp,?_⟩;rw[h.idx i es[i] (Ou hi'),q];rfl
   rw[<-Py]at h0;rw[Po.1 h0]at hm;cases hm
 have hp:seen.toList.Perm (List.range ks.length):=
  (List.perm_ext_iff_of_nodup hn List.nodup_range).2 fun i=>⟨fun q=>Pt.2 (hb i q),fun q=>all i (Pt.1 q)⟩
 have e:(List.range ks.length).map (jF ks)=ks:=by
  apply List.ext_getElem
  ·simp
  ·intro i h1 h2;simp[jF,NX,NS h2]
 have:=hp.map (jF ks);rw[e]at this;exact this
structure StepU(bm r clock:Nat)(es:Array MapEntry)(seen:Array Nat)(w:World)(e:MapEntry)(w2:World):Prop where
 mem:e∈(leftOf es seen).toList
 it:w2.heap[r]?=some (.mapIter (some bm) clock (seen.push e.born) clock)
 grown:w.grownBy w2 (some r)
structure DoneU(es:Array MapEntry)(seen:Array Nat):Prop where
 none:(leftOf es seen).size=0
theorem lenU:∀(n:Nat)(l:List Nat),l.Nodup->(∀i∈l,i<n)->l.length<=n
 |0,l,_,h=>by
  cases l with|nil=>exact O7 _|cons a r=>have:=h a (by simp);omega
 |n+1,l,hn,h=>by
  have h1:=lenU n (l.erase n) (hn.erase n) (fun i hi=>by
   rw[hn.erase_eq_filter,OP]at hi;have:=h i hi.1;have h2:i≠n:=by simpa using hi.2
   omega)
  by_cases hm:n∈l
  ·rw[List.length_erase_of_mem hm]at h1;omega
  ·rw[List.erase_of_not_mem hm]at h1;omega
section
variable {F:Fence} {n:Nat} {P:Program} {ops:Array Oper} {Q:Exit->Act->World->Prop} {o:Oper} {rest:List Oper} {a:Act} (w:World)
theorem qb(hg:o.guard=none)(m:Operand)(t:TypeId)(hop:o.op=Op.range t m)(k e:TypeId)(ht:P.underlying t=some (.map k e))(b:Nat)(es:Array MapEntry)(clock:Nat)
 (hm:a.eval m=.map (some b))(hb:w.heap[b]?=some (.map es clock))
 (hK:wpListIn F n P ops Q rest (a.put o.dst (.pointer (some ⟨w.heap.size,0,none⟩))) (w.alloc (.mapIter (some b) clock #[] clock))) :
  wpListIn F n P ops Q (o::rest) a w:=by
 refine wpListIn_plain hg fun K' hK'=>?_;have hrun:=run_range_map (P:=P) w t k e b es clock ht hb;unfold Oper.wpIn;refine⟨?_,?_⟩
 ·simp[Oper.about,hop]
 ·rw[Oper.semAt_plain F _ _ (by rw[hop];intro c hc';cases hc')];simp[execOp,hop,hm,hrun,Result.andThen];exact hK' _ _ hK
theorem rq(hg:o.guard=none)(it:Operand)(hop:o.op=Op.next it false)(r bm clock c0:Nat)(seen:Array Nat)(es:Array MapEntry)
 (hit:a.eval it=.pointer (some ⟨r,0,none⟩))(hr:w.heap[r]?=some (.mapIter (some bm) clock seen c0))(hb:w.heap[bm]?=some (.map es clock))(hold:∀x∈es.toList,x.born<clock)(hsc:clock<=c0)
 (hDone:DoneU es seen->wpListIn F n P ops Q rest (a.put o.dst (.tuple #[.bool false])) w)
 (hMore:∀(e:MapEntry)(w2:World),StepU bm r clock es seen w e w2->wpListIn F n P ops Q rest (a.put o.dst (.tuple #[.bool true,e.key,e.val])) w2) :
  wpListIn F n P ops Q (o::rest) a w:=by
 refine wpListIn_plain hg fun K' hK'=>?_;unfold Oper.wpIn;refine⟨by simp[Oper.about,hop],?_⟩;rw[Oper.semAt_plain F _ _ (by rw[hop];intro c hc';cases hc')];rcases run_next_at (P:=P) w o.type r bm clock c0 seen es clock hr hb hold hsc with⟨h0,hrun⟩|⟨e,he,w1,hw1,hrun⟩
 ·simp[execOp,hop,hit,hrun,Result.andThen];exact hK' _ _ (hDone ⟨h0⟩)
 ·simp[execOp,hop,hit,hrun,Result.andThen]
  have hrl:r<w.heap.size:=by
   rcases NZ r w.heap.size with h|h
   ·exact h
   ·rw[OG h]at hr;cases hr
  have hh:w1.heap=w.heap:=by rcases hw1 with rfl|rfl<;>rfl
  refine hK' _ _ (hMore e _ ⟨he,?_,?_⟩)
  ·show(w1.heap.setIfInBounds r _)[r]?=_;rw[hh];simp[hrl]
  ·refine⟨?_,?_,?_,?_,fun k hk hne=>?_⟩
   ·rcases hw1 with rfl|rfl<;>rfl
   ·rcases hw1 with rfl|rfl<;>rfl
   ·rcases hw1 with rfl|rfl<;>rfl
   ·show _<=(w1.heap.setIfInBounds r _).size;rw[hh];simp
   ·show(w1.heap.setIfInBounds r _)[k]?=_;rw[hh,R1 (fun e=>hne (by rw[e]))]
end
theorem Tryz.ukeys1(F:Fence)(n:Nat)(h59:F.fn 78)(hro:F.round=none)(hn:1<=n)(l Bm off bm:Nat)(es:Array MapEntry)(clock:Nat)(ks:List Nam)(hK:KeysU es clock ks)(J:List Nam->World->Prop)
 (hY:∀pre x W,J pre W->pre.length<ks.length->YieldAt F (n-1) Tryz.prog l #[qa x] W fun e W'=>e=.returned (.bool true)/\J (pre++[x]) W'/\KeepsWalks W W')
 (W:World)(hJ:AbidesFrom W.heap.size J)(hm:W.cell? ⟨Bm,off,none⟩=some (.map (some bm)))(hb:W.heap[bm]?=some (.map es clock))(h0:J [] W) :
  CallsIn F n Tryz.prog 78 #[.func (.yield l) #[] #[],.pointer (some ⟨Bm,off,none⟩)] W fun e W'=>(∃v,e=.returned v)/\∃ss:List Nam,ss.Perm ks/\J ss W':=by
 have hbm:bm<W.heap.size:=by
  rcases NZ bm W.heap.size with h|h
  ·exact h
  ·rw[OG h]at hb;cases hb
 refine callsIn_of_wp Tryz.func78 rfl h59 ?_ hro;simp only[Tryz.ntmps78,Pw,O2,OH,Nat.reduceAdd,Nat.reduceSub,Pp,Pq,PB,Ps,Pg,OI]
 gi_wp2_with (first
  |(gi_at_range;refine qb _ rfl _ 100 rfl 97 3 Tryz.underlying100 bm es clock rfl hb ?_)
  |gi_in)
 go_frame
 gi_loopw [3] (fun _ wr=>∃(seen:Array Nat)(c0:Nat),wr.heap[W.heap.size]?=some (.mapIter (some bm) clock seen c0)/\clock<=c0/\wr.heap[bm]?=some (.map es clock)/\seen.toList.Nodup/\(∀i∈seen.toList,i<ks.length)/\J (seen.toList.map (jF ks)) wr)
  (fun _ wr=>Mo bm W.heap.size wr)
 case atStart=>
  refine⟨#[],clock,heap_alloc_new _ _,O7 _,(heap_alloc_old _ _ hbm).trans hb,List.nodup_nil,by simp,hJ [] W _ none h0 (Rj W _ none) (fun r e=>by cases e)⟩
 case round=>
  obtain⟨seen,c0,hit,hc0,hbw,hnd,hlt,hJs⟩:=hrel
  gi_wp2_with (first
   |(gi_at_next;refine rq _ rfl _ rfl W.heap.size bm clock c0 seen es rfl hit hbw hK.old hc0 ?_ ?_)
   |gi_in)
  ·
   intro hl0
   gi_wp2
   go_end0
   exact⟨⟨_,rfl⟩,_,hK.done hnd hlt hl0.none,hJs⟩
  ·
   intro e w2 hs;have hes:e∈es.toList:=by have:=hs.mem;unfold leftOf at this;simp only[PV,OP]at this;exact this.1
   have hns:e.born∉seen.toList:=by have:=hs.mem;unfold leftOf at this;simp only[PV,OP]at this;simpa using this.2
   obtain⟨i,hi,hei⟩:=PU hes;have hi':i<es.size:=by simpa using hi
   have hei':es[i]?=some e:=by rw[<-hei];simp[hi']
   have hbi:e.born=i:=hK.idx i e hei';have hik:i<ks.length:=by rw[<-hK.size];exact hi'
   have hpk:ks[i]?=some (jF ks i):=by simp[jF,NX,NS hik]
   have hkey:e.key=qa (jF ks i):=hK.key i e _ hei' hpk
   have hm2:w2.heap[bm]?=some (.map es clock):=by
    rw[hs.grown.block bm ?_ ?_];exact hbw
    ·rcases NZ bm wr.heap.size with h|h
     ·exact h
     ·rw[OG h]at hbw;cases hbw
    ·intro e;cases e;omega
   have hen:=run_entry_at (P:=Tryz.prog) w2 W.heap.size bm clock seen es clock e hs.it hm2 hes hK.nodup
   have hlen:(seen.toList.map (jF ks)).length<ks.length:=by
    have:=lenU ks.length (i::seen.toList) (Q2.2 ⟨by rw[<-hbi];exact hns,hnd⟩) (fun j hj=>by
     rcases O1.1 hj with rfl|hj
     ·exact hik
     ·exact hlt j hj)
    rw[OT];rw[O2]at this;exact this
   have hJ2:J (seen.toList.map (jF ks)) w2:=hJ _ wr w2 (some W.heap.size) hJs hs.grown (fun r e=>by cases e;exact⟨O7 _,_,hit,rfl⟩);have hJ3:J (seen.toList.map (jF ks)) (w2.alloc (.cells #[.string ⟨(jF ks i).pkg.toArray⟩,.string ⟨(jF ks i).name.toArray⟩] 97)):=hJ _ w2 _ none hJ2 (Rj w2 _ none) (fun r e=>by cases e);obtain⟨fn,tmps,assign,body,hy,hR⟩:=hY _ (jF ks i) _ hJ3 hlen;have hi2:=hs.it;have hmem:=hs.mem;clear hs hJ2 hJ3;rw[hkey]at hen⊢;unfold qa at hen hy⊢
   gi_wp2
   refine hR.mono ?_;rintro e' W3 ⟨rfl,hJ4,hk3⟩
   gi_wp2
   have q1:W3.heap[W.heap.size]?=some (.mapIter (some bm) clock (seen.push e.born) clock):=hk3.same _ _ ((heap_alloc_old _ _ (Ox.1 hi2).1).trans hi2) rfl;have q2:W3.heap[bm]?=some (.map es clock):=hk3.same _ _ ((heap_alloc_old _ _ (Ox.1 hm2).1).trans hm2) rfl
   go_roundw
   case rel=>
    refine⟨_,clock,q1,O7 _,q2,?_,?_,?_⟩
    ·rw[Ry];exact Ru.2 ⟨hnd,by simp,fun a ha b hb e=>by simp at hb;subst hb;exact hns (e ▸ ha)⟩
    ·intro j hj;rw[Ry,On,OE]at hj;rcases hj with hj|rfl
     ·exact hlt j hj
     ·omega
    ·rw[Ry,PL,Qy,hbi];exact hJ4
   case measure=>
    unfold Mo;rw[q1,q2,hit,hbw];exact wh hmem
theorem Tryz.ukeys(F:Fence)(n:Nat)(h59:F.fn 78)(hro:F.round=none)(hn:1<=n)(Bm off bm:Nat)(es:Array MapEntry)(clock:Nat)(ks:List Nam)(hK:KeysU es clock ks)(w:World)(hm:w.cell? ⟨Bm,off,none⟩=some (.map (some bm)))(hb:w.heap[bm]?=some (.map es clock)) :
  SeqGives F n Tryz.prog 78 #[.pointer (some ⟨Bm,off,none⟩)] qa (fun ss=>ss.Perm ks) ks.length w:=fun l J W hW hJ hY h0=>by
 have hbm:bm<w.heap.size:=by
  rcases NZ bm w.heap.size with h|h
  ·exact h
  ·rw[OG h]at hb;cases hb
 exact Tryz.ukeys1 F n h59 hro hn l Bm off bm es clock ks hK J hY W hJ ((hW.cell (p:=⟨Bm,off,none⟩) (aD hm)).trans hm) ((hW.block bm hbm).trans hb) h0
end Go.Proofs
end
section
namespace Go.Proofs
open Go.RowKit Go.Shelf Go.AL Go.Maps
variable [Tabs]
attribute [local go_sem] Oper.semAt_some
set_option maxHeartbeats 4000000
def l0(x:Nam):List Value:=[.string ⟨x.pkg.toArray⟩,.string ⟨x.name.toArray⟩]
def jG(ss:List Nam):List Value:=ss.flatMap l0
theorem HQ(ss:List Nam)(x:Nam):jG (ss++[x])=jG ss++l0 x:=by simp[jG]
theorem yS(w:World)(x y:Value)(t:TypeId):∀j u,[x,y][j]?=some u->(w.alloc (.cells #[x,y] t)).cell? ((⟨w.heap.size,0,none⟩:Addr).add j)=some u:=by
 intro j u hj;have hn:(w.alloc (.cells #[x,y] t)).heap[w.heap.size]?=some (.cells #[x,y] t (0,0)):=World.alloc_heap_new w _
 match j,hj with
 |0,hj=>cases hj;show(w.alloc _).cell? ⟨w.heap.size,0,none⟩=_;rw[al hn];rfl
 |1,hj=>cases hj;show(w.alloc _).cell? ⟨w.heap.size,1,none⟩=_;rw[al hn];rfl
 |j+2,hj=>simp at hj
theorem Tryz.infoU:(Tryz.prog.info? 97).map (fun i=>(i.zero,i.size,i.bytes))=some (some (.agg #[.string ⟨#[]⟩,.string ⟨#[]⟩]),2,32):=by kernel_rfl
def qc:Code:=(Code.region 2 #[{dst:=some 5,op:=Op.alloc 97,type:=0,pos:= "iter.go:51",after:=#[],guard:=none},{dst:=none,op:=Op.store 97 (Operand.tmp 5) (Operand.tmp 7),type:=0,pos:= "iter.go:51",after:=#[{on:=0,ground:=Ground.data},{on:=0,ground:=Ground.phase}],guard:=none}] false)
def yT:Code:=(Code.block 1 (Code.region 3 #[{dst:=some 8,op:=Op.load 54 (Operand.tmp 2),type:=54,pos:= "iter.go:52",after:=#[],guard:=none},{dst:=some 9,op:=Op.load 97 (Operand.tmp 5),type:=97,pos:= "iter.go:52",after:=#[],guard:=none},{dst:=some 10,op:=Op.buildSlice 54 1 #[(0,Operand.tmp 9)],type:=54,pos:= "iter.go:52",after:=#[{on:=1,ground:=Ground.data}],guard:=none},{dst:=some 11,op:=Op.call {callee:=Callee.builtin Builtin.append,args:=#[Operand.tmp 8,Operand.tmp 10],argTypes:=#[54,54]},type:=54,pos:= "iter.go:52",after:=#[{on:=0,ground:=Ground.data},{on:=2,ground:=Ground.data}],guard:=none},{dst:=none,op:=Op.store 54 (Operand.tmp 2) (Operand.tmp 11),type:=0,pos:= "iter.go:52",after:=#[{on:=3,ground:=Ground.data},{on:=3,ground:=Ground.chain},{on:=0,ground:=Ground.phase},{on:=1,ground:=Ground.phase},{on:=2,ground:=Ground.phase},{on:=3,ground:=Ground.phase}],guard:=none}] false))
def iK(fn:FuncId)(sv:Value)(Bs D:Nat)(st:LoopState)(pend:Option Code):Loop:=
 {state:=st,pending:=pend,fn,tmps:=#[.slice none 0 0,sv,.pointer (some ⟨Bs,0,none⟩),undef,.slice none 0 0,undef,sv,undef,undef,undef,undef,undef,undef],params:=#[7],assign:=qc,body:=yT,defers:=D}
structure UApAt(w0:World)(fn:FuncId)(sv:Value)(Bs l D:Nat)(ss:List Nam)(W:World):Prop where
 box:∃v,W.heap[Bs]?=some (.cells #[v] 54 (0,0))/\W.ownsRow w0.heap.size 97 2 v ss.length (jG ss)/\(v=.slice none 0 0↔ss=[])
 L:W.heap[l]?=some (.loop (iK fn sv Bs D .ready none))
 K:W.heap[D]?=some (.deferred (some []))
 below:Below w0.heap.size w0 W
theorem Ey(w0:World)(fn:FuncId)(sv:Value)(Bs l D B:Nat)(hB:w0.heap.size<=B):AbidesFrom B (UApAt w0 fn sv Bs l D):=fun s W W' row h hg hrow=>by
 have hrow':∀r,row=some r->∃o:Obj,W.heap[r]?=some o/\o.isWalk=true:=fun r e=>(hrow r e).2;obtain⟨v,hv,hr,hn⟩:=h.box
 exact⟨⟨v,(grownBy_keeps hg hrow' hv rfl).trans hv,ownsRow_abides_a hr hg hrow',hn⟩,(grownBy_keeps hg hrow' h.L rfl).trans h.L,(grownBy_keeps hg hrow' h.K rfl).trans h.K,
  h.below.grown hg h.below.size (fun k e=>OW hB (hrow k e).1)⟩
theorem Tryz.uapYield(F:Fence)(m:Nat)(w0:World)(fn:FuncId)(hfn:F.fn fn)(sv:Value)(Bs l D:Nat)(hBl:Bs≠l)(hDl:D≠l)(hDB:D≠Bs)(h0B:w0.heap.size<=Bs)(h0l:w0.heap.size<=l)
 (N:Nat)(hN:N<=maxLen)(hNb:N *32<=140737488355328)(ss:List Nam)(x:Nam)(W:World)(h:UApAt w0 fn sv Bs l D ss W)(hlen:ss.length<N) :
  YieldAt F m Tryz.prog l #[qa x] W fun e W'=>e=.returned (.bool true)/\UApAt w0 fn sv Bs l D (ss++[x]) W'/\KeepsWalks W W':=by
 have hne:(54:Nat)≠97:=by decide
 obtain⟨i0,hi,hz0,hz1,hz2⟩:=info_parts Tryz.infoU;refine⟨fn,#[.slice none 0 0,sv,.pointer (some ⟨Bs,0,none⟩),undef,.slice none 0 0,undef,sv,qa x,undef,undef,undef,undef,undef],qc,yT,by simpa[iK]using run_yield (P:=Tryz.prog) (args:=#[qa x]) h.L rfl,roundIn_of_wpIn hfn ?_⟩;obtain⟨Wa,hWa⟩:∃Wa,W.alloc (.cells #[.string ⟨x.pkg.toArray⟩,.string ⟨x.name.toArray⟩] 97)=Wa:=⟨_,rfl⟩;have hga:W.grownBy Wa none:=by rw[<-hWa];exact Rj _ _ none
 have hka:KeepsWalks W Wa:=by rw[<-hWa];exact KeepsWalks.alloc _ _
 have hL:Wa.heap[l]?=some (.loop (iK fn sv Bs D .ready none)):=(hga.block l (Ox.1 h.L).1 (by simp)).trans h.L;have hK:Wa.heap[D]?=some (.deferred (some [])):=(hga.block D (Ox.1 h.K).1 (by simp)).trans h.K;have h5:Wa.heap[W.heap.size]?=some (.cells #[.string ⟨x.pkg.toArray⟩,.string ⟨x.name.toArray⟩] 97 (0,0)):=by rw[<-hWa];exact World.alloc_heap_new _ _
 have hbw:Below w0.heap.size w0 Wa:=h.below.grown hga h.below.size (fun k e=>by cases e);obtain⟨v,hv0,hrow0,_⟩:=h.box;have hv:Wa.heap[Bs]?=some (.cells #[v] 54 (0,0)):=(hga.block Bs (Ox.1 hv0).1 (by simp)).trans hv0;have hrow:Wa.ownsRow w0.heap.size 97 2 v ss.length (jG ss):=hrow0.kept hga (PX _);have hlW:l<W.heap.size:=(Ox.1 h.L).1;have hl:l<Wa.heap.size:=(Ox.1 hL).1;have hbr:=run_beginRound (P:=Tryz.prog) hL rfl;obtain⟨W2,hW2⟩:∃W2,Wa.putObj l (.loop {iK fn sv Bs D .ready none with state:=.busy})=W2:=⟨_,rfl⟩;rw[hW2]at hbr;have hg2:Wa.grownBy W2 (some l):=by rw[<-hW2];exact grownBy_putObj_a _ _ _
 have hk2:KeepsWalks W W2:=hka.trans (by rw[<-hW2];exact KeepsWalks.putObj _ hL rfl);have hv2:W2.heap[Bs]?=some (.cells #[v] 54 (0,0)):=by rw[<-hW2];exact(World.putObj_heap_other hBl).trans hv
 have hK2:W2.heap[D]?=some (.deferred (some [])):=by rw[<-hW2];exact(World.putObj_heap_other hDl).trans hK
 have hL2:W2.heap[l]?=some (.loop {iK fn sv Bs D .ready none with state:=.busy}):=by rw[<-hW2];exact World.putObj_heap_same hl
 have hrow2:W2.ownsRow w0.heap.size 97 2 v ss.length (jG ss):=hrow.kept hg2 (ownsRow_ne_a hrow hL (fun cur e=>by first|cases e|exact hne (PY e).2.1));have hb2:Below w0.heap.size w0 W2:=hbw.grown hg2 hbw.size (fun k e=>by cases e;exact h0l);have h52:W2.heap[W.heap.size]?=some (.cells #[.string ⟨x.pkg.toArray⟩,.string ⟨x.name.toArray⟩] 97 (0,0)):=by rw[<-hW2];exact(World.putObj_heap_other (by omega)).trans h5
 have hc5:W2.cell? ⟨W.heap.size,0,none⟩=some (.string ⟨x.pkg.toArray⟩):=by simp[World.cell?,h52]
 have hc6:W2.cell? ⟨W.heap.size,1,none⟩=some (.string ⟨x.name.toArray⟩):=by simp[World.cell?,h52]
 obtain⟨hc2,hf2⟩:=cell_of_box_a hv2;have hBlt:Bs<W2.heap.size:=(Ox.1 hv2).1;have hl2:l<W2.heap.size:=(Ox.1 hL2).1;have hDlt:D<W2.heap.size:=(Ox.1 hK2).1
 have ne_of:∀{j:Nat} {o:Obj},W2.heap[j]?=some o->(∀cur,o≠.cells cur 97 (0,0))->some j≠v.ownBlock:=fun hj hno=>by
  rcases ownsRow_ne_a hrow2 hj hno with e|e
  ·rw[e];simp
  ·exact fun e'=>e e'.symm
 clear hW2;unfold qc qa
 gi_wp2_with gi_round_op_a
 unfold yT
 gi_wp2_with (first
  |(gi_at_builtin;refine wpListIn_append_own _ rfl _ _ 54 rfl w0.heap.size 97 i0 (.agg #[.string ⟨#[]⟩,.string ⟨#[]⟩]) 2 32 Tryz.underlying54 hi hz0 hz1 hz2 rfl (by decide) _ _ _ rfl (hrow2.alloc _) ⟨W2.heap.size,0,none⟩ 1 1 (l0 x) rfl rfl (yS _ _ _ _) (by simp[Value.oneCell',l0]) (by omega) (by omega) (by have:=hb2.size;simp;omega) ?_;intro v' w3 hown' hg3 hnil3;have hv3:w3.heap[Bs]?=some (.cells #[v] 54 (0,0)):=(hg3.block Bs (by simp;omega) (ne_of hv2 (fun cur e=>by first|cases e|exact hne (PY e).2.1))).trans ((Below.heap_alloc _ _ Bs hBlt).trans hv2);obtain⟨hc3,hf3⟩:=cell_of_box_a hv3;obtain⟨g',cap',cur',rfl,hbase',hgb',hr1,hr2,hr3,hr4⟩:∃g' cap' cur',v'=.slice (some ⟨g',0,none⟩) (ss.length+1) cap'/\w0.heap.size<=g'/\w3.heap[g']?=some (.cells cur' 97 (0,0))/\ss.length+1<=cap'/\cap'<=maxLen/\cur'.size=cap' *2/\cur'.toList.take ((ss.length+1) *2)=jG ss++l0 x:=hown'.2.elim (fun q=>absurd q.2 (by omega)) id;go_frame)
  |gi_round_op_a)
 have hg3':(W2.alloc (.cells #[.string ⟨x.pkg.toArray⟩,.string ⟨x.name.toArray⟩] 97)).grownBy w3 v.ownBlock:=hg3;have hL3:w3.heap[l]?=some (.loop {iK fn sv Bs D .ready none with state:=.busy}):=(hg3'.block l (by simp;omega) (ne_of hL2 (fun cur e=>by first|cases e|exact hne (PY e).2.1))).trans ((Below.heap_alloc _ _ l hl2).trans hL2);have hK3:w3.heap[D]?=some (.deferred (some [])):=(hg3'.block D (by simp;omega) (ne_of hK2 (fun cur e=>by first|cases e|exact hne (PY e).2.1))).trans ((Below.heap_alloc _ _ D hDlt).trans hK2);obtain⟨w4,hw4⟩:∃w4,w3.setCell ⟨Bs,0,none⟩ (.slice (some ⟨g',0,none⟩) (ss.length+1) cap')=w4:=⟨_,rfl⟩;rw[hw4];have hg4:w3.grownBy w4 (some Bs):=by rw[<-hw4];exact grownBy_setCell0_a _ _ _
 have hv4:w4.heap[Bs]?=some (.cells #[.slice (some ⟨g',0,none⟩) (ss.length+1) cap'] 54 (0,0)):=by rw[<-hw4];exact heap_setCell_box_a _ hv3
 have hL4:w4.heap[l]?=some (.loop {iK fn sv Bs D .ready none with state:=.busy}):=(hg4.block l (Ox.1 hL3).1 (fun e=>hBl (by cases e;rfl))).trans hL3;have hK4:w4.heap[D]?=some (.deferred (some [])):=(hg4.block D (Ox.1 hK3).1 (fun e=>hDB (by cases e;rfl))).trans hK3;have hrow4:=hown'.kept hg4 (ownsRow_ne_a hown' hv3 (fun cur e=>by first|cases e|exact hne (PY e).2.1));have hl4:l<w4.heap.size:=(Ox.1 hL4).1;have hb3:Below w0.heap.size w0 w3:=(hb2.alloc hb2.size _).grown hg3' (by have:=hb2.size;simp;omega) (fun k e=>(hrow2.lt k e).1);have hb4:Below w0.heap.size w0 w4:=hb3.grown hg4 hb3.size (fun k e=>by cases e;exact h0B);have hk4:KeepsWalks W w4:=((hk2.trans (KeepsWalks.alloc _ _)).trans (KeepsWalks.of_grownBy hg3' (ownsRow_not_walk_a (hrow2.alloc _)))).trans (by rw[<-hw4];exact KeepsWalks.setCell _ _ _);clear hw4;refine⟨_,_,run_endRound none hL4,rfl,⟨⟨_,(World.putObj_heap_other hBl).trans hv4,?_,by simp⟩,World.putObj_heap_same hl4,(World.putObj_heap_other hDl).trans hK4,hb4.grown (grownBy_putObj_a _ _ _) hb4.size (fun k e=>by cases e;exact h0l)⟩,hk4.trans (KeepsWalks.putObj _ hL4 rfl)⟩;have:=hrow4.kept (grownBy_putObj_a w4 l (.loop {{iK fn sv Bs D .ready none with state:=.busy}with state:=if(none:Option Code).isNone then .ready else .done,pending:=none})) (ownsRow_ne_a hrow4 hL4 (fun cur e=>by first|cases e|exact hne (PY e).2.1));simpa[HQ]using this
theorem Tryz.uappendSeq(F:Fence)(n:Nat)(h11:F.fn 133)(hro:F.round=none)(hn:2<=n)(g:Nat)(lb:Array Value)(hFg:F.fn g)(eg:∀args w,(callFunc g args).run Tryz.prog w=.ok (.enter g args) w)
 (S:List Nam->Prop)(N:Nat)(hN:N<=maxLen)(hNb:N *32<=140737488355328)(w:World)(hseq:SeqGives F (n-1) Tryz.prog g lb qa S N w) :
  CallsIn F n Tryz.prog 133 #[.slice none 0 0,.func (.func g) #[] lb] w fun e w'=>∃(v:Value)(ss:List Nam),e=.returned v/\S ss/\w'.ownsRow w.heap.size 97 2 v ss.length (jG ss)/\(v=.slice none 0 0↔ss=[])/\Below w.heap.size w w':=by
 have h1:1<=n:=by omega
 have hne:(54:Nat)≠97:=by decide
 refine callsIn_of_wp_marks Tryz.func133 rfl h11 ?_ hro;simp only[Tryz.ntmps133,Pw,O2,OH,Nat.reduceAdd,Nat.reduceSub,Pp,Pq,PB,Ps,Pg,OI]
 gi_wp2
 refine wpIn_rangeFunc ?_;intro fn hfn;rw[hro];obtain⟨W0,hW0⟩:∃W0,w.alloc (.cells #[.slice none 0 0] 54)=W0:=⟨_,rfl⟩;have hs0:W0.heap.size=w.heap.size+1:=by rw[<-hW0];simp
 have hv0:W0.heap[w.heap.size]?=some (.cells #[.slice none 0 0] 54 (0,0)):=by rw[<-hW0];exact World.alloc_heap_new w _
 have hb0:Below w.heap.size w W0:=by rw[<-hW0];exact(Below.refl _ w).alloc (O7 _) _
 rw[hW0];obtain⟨W1,hW1⟩:∃W1,(W0.alloc (.deferred (some []))).alloc (.loop (iK fn (.func (.func g) #[] lb) w.heap.size W0.heap.size .ready none))=W1:=⟨_,rfl⟩;have hold:∀k,k<W0.heap.size->W1.heap[k]?=W0.heap[k]?:=fun k hk=>by rw[<-hW1];exact(Below.heap_alloc _ _ k (by simp;omega)).trans (Below.heap_alloc _ _ k hk)
 have hb1:Below w.heap.size w W1:=by rw[<-hW1];exact(hb0.alloc hb0.size _).alloc (by have:=hb0.size;simp;omega) _
 have hs1:W1.heap.size=W0.heap.size+2:=by rw[<-hW1];simp
 have hM:UApAt w fn (.func (.func g) #[] lb) w.heap.size (W0.heap.size+1) W0.heap.size [] W1:=
  ⟨⟨_,(hold w.heap.size (by omega)).trans hv0,⟨rfl,.inl ⟨rfl,rfl⟩⟩,by simp⟩,
   by rw[<-hW1];have:=World.alloc_heap_new (W0.alloc (.deferred (some []))) (.loop (iK fn (.func (.func g) #[] lb) w.heap.size W0.heap.size .ready none));rwa [World.size_alloc]at this,
   by rw[<-hW1];exact(Below.heap_alloc _ _ _ (by simp)).trans (World.alloc_heap_new W0 _),hb1⟩
 refine⟨W0.heap.size+1,[{target:=.collected W0.heap.size,args:=#[]}],W1,{target:=.fn (.func g) lb,args:=#[.func (.yield (W0.heap.size+1)) #[] #[]]},W1,g,
  #[.func (.yield (W0.heap.size+1)) #[] #[]]++lb,W1,?_,?_,?_,?_,fun _=>h1,?_⟩
 ·rw[<-hW1];exact run_enterLoop_outer _ _ _ _ _
 ·simp[resolve,go_sem]
 ·intro f' hf';simp[Target.leads]at hf';subst hf';exact hFg
 ·simp[invoke,go_sem,eg]
 ·refine(hseq (W0.heap.size+1) (UApAt w fn (.func (.func g) #[] lb) w.heap.size (W0.heap.size+1) W0.heap.size) W1 hb1 (Ey _ _ _ _ _ _ _ hb1.size)
   (fun pre x W hJ hl=>Tryz.uapYield F (n-1-1) w fn hfn _ w.heap.size (W0.heap.size+1) W0.heap.size (by omega) (by omega) (by omega) (O7 _) (by omega) N hN hNb pre x W hJ hl) hM).mono ?_
  rintro e W2 ⟨⟨v0,rfl⟩,ss,hS,h2⟩;obtain⟨v,hv,hrow,hnil⟩:=h2.box;have hend:=run_endLoop (P:=Tryz.prog) h2.L (by simp[iK]);obtain⟨W3,hW3⟩:∃W3,W2.putObj (W0.heap.size+1) (.loop {iK fn (.func (.func g) #[] lb) w.heap.size W0.heap.size .ready none with state:=.exhausted})=W3:=⟨_,rfl⟩;rw[hW3]at hend;have hg3:W2.grownBy W3 (some (W0.heap.size+1)):=by rw[<-hW3];exact grownBy_putObj_a _ _ _
  have hv3:W3.heap[w.heap.size]?=some (.cells #[v] 54 (0,0)):=by rw[<-hW3];exact(World.putObj_heap_other (by omega)).trans hv
  have hK3:W3.heap[W0.heap.size]?=some (.deferred (some [])):=by rw[<-hW3];exact(World.putObj_heap_other (by omega)).trans h2.K
  have hrow3:=hrow.kept hg3 (ownsRow_ne_a hrow h2.L (fun cur e=>by first|cases e|exact hne (PY e).2.1));have hb3:Below w.heap.size w W3:=h2.below.grown hg3 h2.below.size (fun k e=>by cases e;omega);obtain⟨hc3,hf3⟩:=cell_of_box_a hv3;clear hW3;refine⟨none,W3,hend,?_⟩
  gi_wp2
  rw[<-hs0];refine⟨by simp,.inl ⟨_,_,rfl,run_takeDeferred hK3,?_⟩⟩;exact⟨_,results_tmp rfl _ _ _,v,ss,rfl,hS,hrow3.kept (grownBy_putObj_a _ _ _) (ownsRow_ne_a hrow3 hK3 (fun cur e=>by first|cases e|exact hne (PY e).2.1)),hnil,hb3.grown (grownBy_putObj_a _ _ _) hb3.size (fun k e=>by cases e;omega)⟩
theorem Tryz.ucollect(F:Fence)(n:Nat)(h8:F.fn 76)(h11:F.fn 133)(hro:F.round=none)(hn:3<=n)(g:Nat)(lb:Array Value)(hFg:F.fn g)(eg:∀args w,(callFunc g args).run Tryz.prog w=.ok (.enter g args) w)
 (S:List Nam->Prop)(N:Nat)(hN:N<=maxLen)(hNb:N *32<=140737488355328)(w:World)(hseq:SeqGives F (n-1-1) Tryz.prog g lb qa S N w) :
  CallsIn F n Tryz.prog 76 #[.func (.func g) #[] lb] w fun e w'=>∃(v:Value)(ss:List Nam),e=.returned v/\S ss/\w'.ownsRow w.heap.size 97 2 v ss.length (jG ss)/\(v=.slice none 0 0↔ss=[])/\Below w.heap.size w w':=by
 have h1:1<=n:=by omega
 have e98:∀args w,(callFunc 133 args).run Tryz.prog w=.ok (.enter 133 args) w:=enters_of Tryz.func133 (by kernel_rfl) rfl;refine callsIn_of_wp Tryz.func76 rfl h8 ?_ hro;simp only[Tryz.ntmps76,Pw,O2,OH,Nat.reduceAdd,Nat.reduceSub,Pp,Pq,PB,Ps,Pg,OI]
 gi_wp2_with (gi_at_fn 133;refine(Tryz.uappendSeq F (n-1) h11 hro (by omega) g lb hFg eg S N hN hNb _ hseq).mono ?_;rintro e w' ⟨v,ss,rfl,hS,hrow,hnil,hb⟩)
 go_ret
 exact⟨v,ss,rfl,hS,hrow,hnil,hb⟩
end Go.Proofs
end
section
namespace Go.Proofs
open Go.RowKit Go.Shelf Go.AL Go.Maps Go.Sort Go.Pd Go.Lib
variable [Tabs]
attribute [local go_sem] Oper.semAt_some
set_option maxHeartbeats 4000000
theorem wZ:∀(ss:List Nam)(t:Nat),t<ss.length *2->(jG ss)[t]?=some ((nv (ss.toArray[t/2]!))[t%2]!)
 |[],t,h=>by simp at h
 |x::r,t,h=>by
  have e:jG (x::r)=l0 x++jG r:=by simp[jG]
  rw[e]
  match t,h with
  |0,_=>rfl
  |1,_=>rfl
  |t+2,h=>
   have h':t<r.length *2:=by simp at h;omega
   have ih:=wZ r t h';rw[O8 (by simp[l0])];rw[show t+2-(l0 x).length=t by simp[l0],ih];have d:(t+2)/2=t/2+1:=by omega
   have m:(t+2)%2=t%2:=by omega
   rw[d,m];have hl:t/2<r.length:=by omega
   simp[hl]
theorem rr{w:World}{g n:Nat}{os:Array Obj}(d:Array Nam):w.grownBy (sortWorldK nv 2 w g 0 n d os) (some g):=by unfold sortWorldK putRowK;refine⟨rfl,rfl,rfl,by simp,fun k hk hne=>?_⟩;rw[heap_grow_old _ _ (by simpa using hk)];have:g≠k:=fun e=>hne (by rw[e]);simp[putRow,mapBlock,Sort.ahead,Pe,this]
def RowU(w':World)(base:Nat)(v:Value)(l:List Nam):Prop:=
 (v=.slice none 0 0/\l=[])∨∃g cap,v=.slice (some ⟨g,0,none⟩) l.length cap/\base<=g/\l.length<=cap/\cap<=maxLen/\HoldsK nv 2 w' g 0 l.toArray
theorem HR{ks:List Nam}(hnd:ks.Nodup){d:Array Nam}(hp:d.toList.Perm ks)(hs:SortedIn (ltOf cfU) 0 d.size d):d.toList=gB ks:=by
 have hn:d.toList.Nodup:=hp.nodup_iff.2 hnd;refine yl ?_ (wD hnd) fun v=>by rw[hp.mem_iff,gB,Qb]
 unfold Ay;rw[P4];intro i j hi hj hij;have hi':i<d.size:=by simpa using hi
 have hj':j<d.size:=by simpa using hj
 have h:=hs i j (O9 _) hij hj';rw[pc,PR d j hj',PR d i hi']at h;simp only[Rb];rcases mL d[i] d[j]with t|t|t
 ·exact t
 ·rw[Pv,P4]at hn;exact absurd (by simpa using t) (hn i j hi hj hij)
 ·rw[t]at h;cases h
theorem Tryz.usorted(w:World)(g:Nat)(lb:Array Value)(eg:∀args w,(callFunc g args).run Tryz.prog w=.ok (.enter g args) w)(ks:List Nam)(hN:ks.length *32<=140737488355328)(hnd:ks.Nodup)
 (hseq:SeqGives Fence.wide 2 Tryz.prog g lb qa (fun ss=>ss.Perm ks) ks.length w) :
  Calls Tryz.prog 38 #[.func (.func g) #[] lb,.func (.func 40) #[] #[]] w fun en w'=>∃v,en=.returned v/\RowU w' w.heap.size v (gB ks)/\RowKit.Below w.heap.size w w':=by
 have e57:∀args w,(callFunc 76 args).run Tryz.prog w=.ok (.enter 76 args) w:=enters_of Tryz.func76 (by kernel_rfl) rfl;have e58:∀args w,(callFunc 77 args).run Tryz.prog w=.ok (.enter 77 args) w:=enters_of Tryz.func77 (by kernel_rfl) rfl;have e29:∀args w,(callFunc 40 args).run Tryz.prog w=.ok (.enter 40 args) w:=enters_of Tryz.func40 (by kernel_rfl) rfl;have w57:Fence.wide.fn 76:=trivial;have w58:Fence.wide.fn 77:=trivial;refine(callsIn_wide (n:=5)).1 ?_;refine callsIn_of_wp (n:=5) Tryz.func38 rfl trivial ?_ rfl;simp only[Tryz.ntmps38,Pw,O2,OH,Nat.reduceAdd,Nat.reduceSub,Pp,Pq,PB,Ps,Pg,OI]
 gi_wp2_with (gi_at_fn 76;refine(Tryz.ucollect Fence.wide 4 trivial trivial rfl (by omega) g lb trivial eg _ ks.length (by unfold maxLen;omega) hN w hseq).mono ?_;rintro e W ⟨v,ss,rfl,hS,hrow,hnil,hb⟩)
 rcases hrow.2 with⟨rfl,hz⟩|⟨gb,cap,cur,rfl,hbase,hgb,r1,r2,r3,r4⟩
 ·have hss:ss=[]:=O6 hz;subst hss;have hks:ks=[]:=by have:=hS.length_eq;simp at this;exact O6 this.symm
  subst hks
  gi_wp2_with (gi_at_fn 77;refine(callsIn_wide.2 (AnyF.slices_SortFunc_none Tryz.sortfU none 0 _ W)).mono ?_;rintro e w' ⟨rfl,rfl⟩)
  go_ret
  exact⟨_,rfl,.inl ⟨rfl,by simp[gB]⟩,hb⟩
 ·have hH:HoldsK nv 2 W gb 0 ss.toArray:=by
   intro j hj;have hj':j<ss.length *2:=by simpa using hj
   refine⟨?_,by simp[World.frozen?,hgb]⟩;have h1:cur.toList[j]?=(jG ss)[j]?:=by rw[<-r4,List.getElem?_take_of_lt (by omega)]
   rw[wZ ss j hj']at h1;rw[OU,al hgb,<-Ob,h1,get_flatK _ _ _ _ (by simpa using hj')];rfl
  have hgl:gb<W.heap.size:=(Ox.1 hgb).1;have hsz:ss.toArray.size<4611686018427387904:=by have:=hS.length_eq;simp;omega
  have cS:=AnyQ.slices_SortFunc Tryz.sortfU 2 Tryz.isAgg97 Tryz.sizeOf97 nv (fun _=>rfl) (by intro x v hv;simp[nv]at hv;rcases hv with rfl|rfl<;>rfl) cfU swoU 40 #[] gb 0 cap ss.toArray W e29 (Tryz.cmpLays _ _ _ _) hH hgl hsz;rw[show ss.toArray.size=ss.length by simp]at cS;clear hrow
  gi_wp2_with (gi_at_fn 77;refine(callsIn_wide.2 cS).mono ?_;rintro e w' ⟨rfl,d',n',os,hperm,hsort,rfl⟩)
  go_ret
  obtain⟨p1,_,p3⟩:=hperm;have hds:d'.size=ss.length:=by rw[p1];simp
  have x1:d'.extract 0 ss.length=d':=by rw[<-hds];simp
  have x2:ss.toArray.extract 0 ss.length=ss.toArray:=by simp
  rw[x1,x2]at p3;have hp:d'.toList.Perm ks:=(by simpa using p3:d'.toList.Perm ss).trans hS;rw[<-hds]at hsort;have hres:=HR hnd hp hsort;have hrl:(gB ks).length=ss.length:=by rw[<-hres];simp[hds]
  refine⟨.slice (some ⟨gb,0,none⟩) ss.length cap,rfl,.inr ⟨gb,cap,by rw[hrl],hbase,by omega,r2,?_⟩,hb.grown (rr _) hb.size (fun j hj=>by cases hj;exact hbase)⟩;rw[<-hres];simp only[PC];exact holdsK_sortWorldK nv 2 W gb 0 n' ss.toArray d' os hgl hH (by rw[hds];simp)
end Go.Proofs
end
noncomputable section
namespace Go.AL
open Go.Proofs Go.RowKit Go.Maps Go.Sort Go.Shelf Go.Pd
variable [Tabs]
set_option maxHeartbeats 1000000
theorem nw{τ:Ty}(m:List (Nam×den τ))(hN:m.length *32<=140737488355328) :
  ak Tryz.prog 38 [.fn 78 [.ptr 900 0],.fn 40 []] [(900,.box (.map 901)),(901,.map (.st .nm) τ m)] ⟨some (m.length *32<=140737488355328),none,.lst (.st .nm) (gB (m.map (·.1))) none,[(901,.map (.st .nm) τ m)]⟩:=by
 intro w pub e vs hp ht hv hs hd hi;obtain⟨v1,v2,rfl,h1,h2⟩:=VL.two_inv hv;obtain⟨us,rfl,hus⟩:=h1.fn_inv;obtain⟨us2,rfl,hus2⟩:=h2.fn_inv;obtain rfl:us2=[]:=O6 hus2.1.symm;obtain⟨u,rfl,hu⟩:=VL.one_inv hus;obtain⟨b,o,len,rfl,he⟩:=hu.ptr_inv;obtain⟨b',o',he',hbox⟩:=hs 900 _ rfl;rw[he]at he';cases he';obtain⟨_,_,_,v,hcell,hvm⟩:=hbox 0 (.map 901) rfl
 cases hvm with
 |map _ r her=>
  have her:e 901=some (.obj r):=her;obtain⟨r',her',_,es,clock,hr,hmok⟩:=hs 901 _ rfl;have her':e 901=some (.obj r'):=her';rw[her]at her';cases her';have hr:w.heap[r]?=some (.map es clock):=hr
  have ent:∀(i:Nat)(hi:i<m.length),∃en,es[i]?=some en/\en.key=qa m[i].1/\m[i].1.pkg.length<=bh/\m[i].1.name.length<=bh:=fun i hi=>by
   have hi':i<es.size:=by rw[hmok.size];exact hi
   have q:=FQ (hmok.ent i es[i] m[i] (Ou hi') (NS hi)).1;exact⟨es[i],Ou hi',q.1,q.2⟩
  have hK:KeysU es clock (m.map (·.1)):=⟨by simp[hmok.size],fun i en k q1 q2=>by
   have hi:i<m.length:=by
    rcases NZ i m.length with q|q
    ·exact q
    ·rw[NV (by simpa using q)]at q2;cases q2
   obtain⟨en',a1,a2,_⟩:=ent i hi;rw[q1]at a1;cases a1;rw[Oy,NS hi]at q2;cases q2;exact a2,hmok.idx,hmok.top⟩
  have hsq:=Tryz.ukeys Fence.wide 2 trivial rfl (by omega) b (o+0) r es clock _ hK w hcell hr;have e59:∀args w,(callFunc 78 args).run Tryz.prog w=.ok (.enter 78 args) w:=enters_of Tryz.func78 (by kernel_rfl) rfl;refine(Tryz.usorted w 78 #[.pointer (some ⟨b,o+0,none⟩)] e59 (m.map (·.1)) (by simpa using hN) hmok.keys hsq).mono ?_;rintro en w' ⟨v,rfl,hrow,hb⟩;have hlen:∀k∈gB (m.map (·.1)),k.pkg.length<=bh/\k.name.length<=bh:=fun k hk=>by rw[gB,Qb]at hk;obtain⟨x,hx,rfl⟩:=Ot.1 hk;obtain⟨i,hi,rfl⟩:=PU hx;obtain⟨_,_,_,a3⟩:=ent i hi;exact a3
  generalize gB (m.map (·.1))=l at hrow hlen
  have aft:∀(Q:Nat->Nat->Prop),(∀b o,Q b o->w.heap.size<=b/\∃v,w'.cell? ⟨b,o,none⟩=some v)->
    After w pub e (aj (ct [(900,.box (.map 901)),(901,.map (.st .nm) τ m)] [(901,.map (.st .nm) τ m)])) w' (fun b o=>pub b o∨Q b o) (fun i=>if 901=i then some (.obj r)else e i):=fun Q hQ=>
   After.slot hp hs hd hi (k:=901) (obj:=.map (.st .nm) τ m) (c:=.obj r) (Q:=Q) hb.os hb.tape hb.output hb.size (fun b h _=>hb.block b h) (fun b o h _=>ai (hb.block b h) o)
    (fun b h _=>⟨aU (hb.block b h),fun o=>aL (hb.block b h) o⟩)
    (fun b o h=>by obtain⟨v,hv⟩:=hp b o h;exact ai (hb.block b (aD hv)) o)
    hQ (fun c0 h=>by rw[her]at h;cases h;exact CLe.refl _) (fun b o ho=>.inr ⟨_,her,ho⟩)
    (fun hx=>⟨r,by simp,fun o=>.inr ⟨901,_,her,rfl⟩,es,clock,(hb.block r (aJ hr)).trans hr,hmok.ext hx⟩)
  rcases hrow with⟨rfl,rfl⟩|⟨g,cap,rfl,hbase,h1,h2,hH⟩
  ·exact⟨_,_,fun _ _ _ h=>(by cases h),.lstNil _ _ (fun _ h=>by cases h),aft (fun _ _=>False) (fun _ _ h=>h.elim)⟩
  ·have cel:∀(i:Nat)(hi:i<l.length)(c:Nat),c<2->w'.cell? ⟨g,i *2+c,none⟩=some ((nv l[i])[c]!):=fun i hi c hc=>by have:=(hH.cell (i:=i) (by simpa using hi) hc).1;rw[show 0+i *2+c=i *2+c by omega]at this;rw[this];simp[hi]
   refine⟨_,_,fun _ _ _ h=>(by cases h),?_,aft (fun b o=>b=g/\o<l.length *2) (fun b o ⟨q1,q2⟩=>?_)⟩
   ·refine .lst (.st .nm) l none g 0 cap (fun i j=>(nv (l.getD i default))[j]!) h1 (by unfold maxLen at h2;unfold bh;omega) (fun id h=>by cases h) (fun i x hx j c hc=>?_) (fun i x hx j c hc=>?_)
    ·obtain⟨hi',rfl⟩:=Ow.1 hx;have hj:j<2:=(Ow.1 hc).1;have ew:ab (.st .nm)=2:=rfl;rw[ew,OU];refine⟨.inr ⟨rfl,by omega⟩,?_⟩;show w'.cell? ⟨g,i *2+j,none⟩=_;rw[cel i hi' j hj,NX,NS hi'];rfl
    ·obtain⟨hi',rfl⟩:=Ow.1 hx;have q:=hlen l[i] (QC hi');rw[NX,NS hi',OR]
     match j,hc with
     |0,hc=>cases hc;exact .str _ q.1
     |1,hc=>cases hc;exact .str _ q.2
     |j+2,hc=>cases hc
   ·subst q1;have hd2:o=(o/2) *2+o%2:=by omega
    exact⟨hbase,_,by rw[hd2];exact cel (o/2) (by omega) (o%2) (by omega)⟩
def uQ:Pat:=fun args S=>
 match args,S with
 |[.fn g [.ptr 900 0],.fn h []],[(900,.box (.map 901)),(901,.map (.st .nm) τ m)]=>
  if g=78/\h=40 then some ⟨some (m.length *32<=140737488355328),none,.lst (.st .nm) (gB (m.map (·.1))) none,[(901,.map (.st .nm) τ m)]⟩else none
 |_,_=>none
theorem vL(he:Enters Tryz.prog 38):ah Tryz.prog 38 uQ:=by
 intro args S A h hob hkeys;unfold uQ at h;split at h
 ·split at h
  ·rename_i e;obtain⟨rfl,rfl⟩:=e;cases h;exact⟨he,nw _ (hob _ rfl)⟩
  ·cases h
 ·cases h
def mj:Pat:=fun args S=>
 match args,S with
 |[.fn g [.ptr 900 0],.fn h []],[(900,.box (.map 901)),(901,.map (.st .nm) τ [x])]=>
  if Nat.beq g 78&&Nat.beq h 40 then some ⟨none,none,.lst (.st .nm) [x.1] none,[(901,.map (.st .nm) τ [x])]⟩else none
 |_,_=>none
theorem uR(he:Enters Tryz.prog 38):ah Tryz.prog 38 mj:=by
 intro args S A h hob hkeys;unfold mj at h;split at h
 ·rename_i τ x;split at h
  ·rename_i e;rw[NT]at e;obtain⟨e1,e2⟩:=e;obtain rfl:=Og e1;obtain rfl:=Og e2;cases h;refine⟨he,?_⟩;have:=nw (τ:=τ) [x] (by simp);have e:gB ([x].map (·.1))=[x.1]:=by simp[gB]
   rw[e]at this;exact this
  ·cases h
 ·cases h
end Go.AL
end
noncomputable section
namespace Go.AL
open Go
variable [Tabs] {P:Program}
def uS(g:Nat):Pat:=fun args S=>
 match args,S with
 |[.map 900],[(900,.map (.st .nm) (.int .i64) m)]=>some ⟨none,none,.fn g [.ptr 1 0],[(1,.box (.map 900)),(900,.map (.st .nm) (.int .i64) m)]⟩
 |_,_=>none
theorem Ca{f g:Nat}(he:Enters P f)(h:∀m:List (Nam×Int),ak P f [.map 900] [(900,.map (.st .nm) (.int .i64) m)] ⟨none,none,.fn g [.ptr 1 0],[(1,.box (.map 900)),(900,.map (.st .nm) (.int .i64) m)]⟩):ah P f (uS g):=by
 intro args S A hA _ _;unfold uS at hA;split at hA
 ·simp only[Xs]at hA;subst hA;exact⟨he,h _⟩
 ·cases hA
end Go.AL
namespace Go.Pd
open Go.AL
theorem uT(u:Nam)(v:Int):∀m:List (Nam×Int),(m.map (·.1)).Nodup->((bO m u v).map (·.1)).Nodup
 |[],_=>by simp[bO]
 |(a,c)::r,h=>by
  have h1:=Q2.1 h;unfold bO;split
  ·rename_i e;subst e;exact h
  ·rename_i e;refine Q2.2 ⟨fun q=>?_,uT u v r h1.2⟩;rcases(wB r u a v).1 q with q|q
   ·exact h1.1 q
   ·exact e q.symm
theorem uU:∀(us:List Nam)(m:List (Nam×Int)),(m.map (·.1)).Nodup->((aM m us).map (·.1)).Nodup
 |[],_,h=>h
 |u::r,m,h=>uU r (Du m u) (uT _ _ _ h)
theorem Kw{m:Modu}(h:bS m=0):gB ((aM [] (cE m.decls)).map (·.1))=fc m:=
 (Jc _ (uU _ _ List.nodup_nil)).trans (NY h).symm
end Go.Pd
end
noncomputable section
namespace Go.Pd
open Go Go.AL
def lgD:List Dcl->Int->Option Int
 |[],n=>some n
 |d::r,n=>if 600<n+(eY d.term 300+sizeF d.shape 300)then none else lgD r (n+(eY d.term 300+sizeF d.shape 300))
def lgR(l:List Bnd):Bool:=l.all fun b=>decide (b.v.pre.length<=60)
def lgI(x:Impt):Bool:=decide (x.range.length<=30)&&(decide (x.pin.pre.length<=60)&&lgR x.range)
def lgH(m:Modu)(n:Int):Bool:=decide (n+(20+(m.imports.length:Int))<=600)&&(decide (m.imports.length<=20)&&(decide (m.exports.length<=80)&&decide (m.decls.length<=60)))
def lgA(o:Option Int)(m:Modu)(k:Int->Bool):Bool:=match o with|none=>false|some n=>m.imports.all lgI&&k n
def lgM:List Modu->Int->Bool
 |[],_=>true
 |m::r,n=>lgH m n&&lgA (lgD m.decls (n+(20+(m.imports.length:Int)))) m (lgM r)
theorem Nk{m:Modu}(h:lgM [m] 0=true):m.decls.length<=60/\m.imports.length<=20:=by rw[lgM,NT]at h;have h:=h.1;unfold lgH at h;simp only[NT,NW]at h;exact⟨h.2.2.2,h.2.1⟩
theorem pd{m:Modu}{n:Int}:lgH m n=true↔n+(20+(m.imports.length:Int))<=600/\m.imports.length<=20/\m.exports.length<=80/\m.decls.length<=60:=by unfold lgH;simp only[NT,NW]
theorem Fx{x:Impt}:lgI x=true↔x.range.length<=30/\x.pin.pre.length<=60/\lgR x.range=true:=by unfold lgI;simp only[NT,NW]
theorem Kx(b:Bnd)(r:List Bnd):lgR (b::r)=(decide (b.v.pre.length<=60)&&lgR r):=P5
def szM:List Modu->Nat
 |[]=>0
 |m::r=>max (szDs m.decls) (szM r)
where szDs:List Dcl->Nat
 |[]=>0
 |d::r=>max (max (sz d.shape) (szT d.term)) (szDs r)
theorem Fy:∀(l:List Dcl)(d:Dcl),d∈l->sz d.shape<=szM.szDs l/\szT d.term<=szM.szDs l
 |x::r,d,h=>by
  rw[szM.szDs];rcases O1.1 h with rfl|h
  ·exact⟨OW (Qh _ _) (Qh _ _),OW (Q9 _ _) (Qh _ _)⟩
  ·have:=Fy r d h;exact⟨OW this.1 (Q9 _ _),OW this.2 (Q9 _ _)⟩
theorem Ky:∀(l:List Modu)(m:Modu),m∈l->∀d∈m.decls,sz d.shape<=szM l/\szT d.term<=szM l
 |x::r,m,h,d,hd=>by
  rw[szM];rcases O1.1 h with rfl|h
  ·have:=Fy _ d hd;exact⟨OW this.1 (Qh _ _),OW this.2 (Qh _ _)⟩
  ·have:=Ky r m h d hd;exact⟨OW this.1 (Q9 _ _),OW this.2 (Q9 _ _)⟩
end Go.Pd
end
noncomputable section
namespace Go.Pd
open Go Go.AL
theorem Kz{us:List Nam}{ds:List Depd}(h:∀d∈ds,d.items.length<=4000/\∀x∈d.items,allS nmU x.shape=true):∀d∈ds.map (jl us),d.items.length<=4000/\∀x∈d.items,allS nmU x.shape=true:=by
 intro d hd;obtain⟨e,he,rfl⟩:=Ot.1 hd;obtain⟨h1,h2⟩:=h e he
 have sub:∀(g:Str)(l:List AL.Item),∀x∈cZ g us l,x∈l:=by
  intro g l
  induction l with
  |nil=>intro x hx;cases hx
  |cons y r ih=>
   intro x hx;rw[cZ]at hx;split at hx
   ·rcases O1.1 hx with rfl|hx
    ·exact Oq ..
    ·exact Od _ (ih x hx)
   ·exact Od _ (ih x hx)
 exact⟨OW (ua _ _ _) h1,fun x hx=>h2 x (sub _ _ x hx)⟩
end Go.Pd
end
section
open Go Go.AL Go.Pd
namespace Go.AL.Seat
theorem HS(a:List Nam)(v:Nam)(ha:Wf (.lst (.st .nm)) a) :
  let A:=(0:Int);let B:=(↑(List.length a):Int);let C:=a=a/\v=v/\B=B/\v=v/\True;let D:=dfl (Ty.st SN.nm);(∃(x:Nat),(x<=List.length a/\kW a v A=kW (List.drop x a) v (↑x:Int))/\A=(↑x:Int)/\C)/\∀(x:Nat),let E:=(↑x:Int);let F:=List.getD a (Int.toNat E) D;x<=List.length a/\kW a v A=kW (List.drop x a) v E->if decide (E<B)=true then(A<=E/\E<B)/\if(decide (v.pkg=F.pkg)&&(decide (v.name=F.name)&&true))=true then True/\E=kW a v A/\True else inR IntKind.i64 (E+(1:Int))/\∃(y:Nat),(y<=List.length a/\kW a v A=kW (List.drop y a) v (↑y:Int))/\List.length a-y<List.length a-x/\E+(1:Int)=(↑y:Int)/\C else True/\(-1:Int)=kW a v A/\True:=by
 conv=>zeta
 have la:=ha.len;simp only[Oa,Pn,OM,OD];refine⟨⟨0,⟨by omega,by simp⟩,by simp⟩,?_⟩;rintro k ⟨h1,h3⟩;apply aa<;>intro h
 ·replace h:=Xo h;have hk:k<a.length:=by omega
  rw[an a k (dfl (.st .nm)) hk]at h3;refine⟨by omega,?_⟩;rw[Fb];by_cases e:a.getD k (dfl (.st .nm))=v
  ·rw[NY (Xd e.symm),h3,kW,NY e]
  ·rw[NU (fun q=>e (Xo q).symm)];exact⟨aB hk la,k+1,⟨by omega,by rw[h3,kW,NU e];rfl⟩,by omega,by omega⟩
 ·replace h:¬((k:Int)<(a.length:Int)):=fun e=>h (Xd e);have e:k=a.length:=by omega
  subst e;rw[h3];simp[kW]
theorem yU(a:List Nam)(v:Nam)  :
  True/\decide ((0:Int)<=kW a v (0:Int))=isU a v.pkg v.name/\True:=by
 simp only[Pn,OM,OD];rw[rL,QN];simp[AA a v 0 (by omega)]
theorem Ez(n:Nat)(s:Shape)(hs:Wf (.st .shape) s)(ho:sz s<=n+1/\allS nmU s=true) :
  let A:=(140737488355328:Nat);let B:=(0:Int);let C:=s.parts=s.parts;let D:=(↑(List.length s.parts):Int);let E:=s.kind=s.kind;let F:=s.name=s.name;let G:=s.names=s.names;let H:=fA UInt8=fA UInt8;let I:=E/\s.pkg=s.pkg/\F/\G/\C/\B=B/\H/\H/\True;let J:=dfl (Ty.st SN.shape);List.length s.names*(16:Nat)<=A/\(∃(x:Nat),x<=List.length s.parts/\List.take x s.parts=[]/\B=(↑x:Int)/\s=s/\C/\D=D/\List.length (List.take x s.parts)=(0:Nat)/\I)/\∀(x:Nat),let K:=(↑x:Int);let L:=List.getD s.parts (Int.toNat K) J;let M:=List.take x s.parts;x<=List.length s.parts->if decide (K<D)=true then(B<=K/\K<D)/\(sz (L)<=n/\allS nmU (L)=true)/\(List.length M=List.length M/\(List.length M+List.length [L])*(88:Nat)<=A)/\inR IntKind.i64 (K+(1:Int))/\∃(y:Nat),y<=List.length s.parts/\List.length s.parts-y<List.length s.parts-x/\List.take x s.parts++[L]=List.take y s.parts/\K+(1:Int)=(↑y:Int)/\s=s/\C/\D=D/\List.length (List.take x s.parts++[L])=List.length (List.take y s.parts)/\I else True/\E/\s.pkg=s.pkg/\F/\G/\List.take x s.parts=s.parts/\True:=by
 conv=>zeta
 have ln:=hs.parts.len;obtain⟨o1,o3⟩:=ho;have hz:=iN s;have hll:=kO s.parts;rw[allS_eq,NT,allL_all,O5]at o3;have hn2:=o3.1;rw[nmU,NT]at hn2;have hn:s.names.length<=1048576:=Xo hn2.1;have hp:s.parts.length<=1048576:=Xo hn2.2;simp only[Oa,Pn,OM,OD];refine⟨by omega,⟨0,O9 _,rfl,rfl,rfl⟩,?_⟩;intro k h1;apply aa<;>intro h
 ·have h:=Xo h;have hk:k<s.parts.length:=by omega
  have hmm:=getD_mem s.parts k (dfl (.st .shape)) hk;have hm:=eE hmm;have ht:=cu s.parts k (dfl (.st .shape)) hk;refine⟨by omega,⟨by omega,o3.2 _ hmm⟩,?_,aB hk ln,k+1,by omega,by omega,ht.symm,by omega,by rw[ht]⟩;rw[Pl,Ov];omega
 ·have e:k=s.parts.length:=by have:¬((k:Int)<(s.parts.length:Int)):=fun e=>h (Xd e);omega
  rw[e,OO]
theorem HT(d:Depd)(u:List Nam)(N:Nat)(hd:Wf (.st .dep) d)(hN:∀x∈d.items,sz x.shape<=N)(ho:d.items.length<=1048576/\∀x∈d.items,allS nmU x.shape=true) :
  let A:=d.items=d.items;let B:=(↑(List.length d.items):Int);let C:=d.name=d.name;let D:=d=d/\fA UInt8=fA UInt8/\True;let E:=dfl (Ty.st SN.item);let F:=(1:Int);(∃(x:Nat),let G:=List.take x d.items;x<=List.length d.items/\(0:Int)=(↑x:Int)/\d=d/\u=u/\A/\B=B/\C/\cZ d.name u G=[]/\List.length (cZ d.name u G)=(0:Nat)/\D)/\∀(x:Nat),let G:=(↑x:Int);let H:=List.getD d.items (Int.toNat G) E;let I:=List.take x d.items;let J:=cZ d.name u I;let K:=[{kind:=H.kind,name:=H.name,shape:=AL.Shape.mk (H.shape.kind) (H.shape.pkg) (H.shape.name) (H.shape.names) (H.shape.parts):AL.Item}];let L:=inR IntKind.i64 (G+F);x<=List.length d.items->if decide (G<B)=true then((0:Int)<=G/\G<B)/\if isU u d.name H.name=true then(sz H.shape<=N/\allS nmU H.shape=true)/\(List.length J=List.length J/\(List.length J+List.length K)*(112:Nat)<=(140737488355328:Nat))/\L/\∃(y:Nat),let M:=List.take y d.items;y<=List.length d.items/\List.length d.items-y<List.length d.items-x/\G+F=(↑y:Int)/\d=d/\u=u/\A/\B=B/\C/\cZ d.name u I++K=cZ d.name u M/\List.length (cZ d.name u I++K)=List.length (cZ d.name u M)/\D else L/\∃(y:Nat),let M:=List.take y d.items;y<=List.length d.items/\List.length d.items-y<List.length d.items-x/\G+F=(↑y:Int)/\d=d/\u=u/\A/\B=B/\C/\cZ d.name u I=cZ d.name u M/\List.length J=List.length (cZ d.name u M)/\D else True/\C/\cZ d.name u I=cZ d.name u d.items/\True:=by
 conv=>zeta
 have lc:=hd.dep_items.len;obtain⟨o1,o2⟩:=ho;have es:∀x:AL.Shape,AL.Shape.mk x.kind x.pkg x.name x.names x.parts=x:=fun x=>by cases x;rfl
 have et:∀x:AL.Item,AL.Item.mk x.kind x.name x.shape=x:=fun x=>by cases x;rfl
 simp only[Oa,Pn,OM,OD,es,et];refine⟨⟨0,O9 _,rfl,rfl,rfl⟩,?_⟩;intro k h1;apply aa<;>intro h
 ·replace h:=Xo h;have hk:k<d.items.length:=by omega
  have hl:=ua d.name u (d.items.take k);rw[Pl]at hl;have ht:=Lk d.name u d.items k (dfl (.st .item)) hk;have ho:=o2 _ (getD_mem d.items k (dfl (.st .item)) hk);have hN:=hN _ (getD_mem d.items k (dfl (.st .item)) hk);obtain⟨x,hx⟩:∃x,d.items.getD k (dfl (.st .item))=x:=⟨_,rfl⟩;simp only[hx]at ht ho hN⊢;have no:isU u d.name x.name=false->inR .i64 ((k:Int)+1)/\∃y,y<=d.items.length/\d.items.length-y<d.items.length-k/\(k:Int)+1=(y:Int)/\cZ d.name u (d.items.take k)=cZ d.name u (d.items.take y)/\(cZ d.name u (d.items.take k)).length=(cZ d.name u (d.items.take y)).length:=fun e=>by rw[e]at ht;exact⟨aB hk lc,k+1,by omega,by omega,by omega,ht.symm,by rw[ht];rfl⟩
  have yes:isU u d.name x.name=true->inR .i64 ((k:Int)+1)/\∃y,y<=d.items.length/\d.items.length-y<d.items.length-k/\(k:Int)+1=(y:Int)/\cZ d.name u (d.items.take k)++[x]=cZ d.name u (d.items.take y)/\(cZ d.name u (d.items.take k)++[x]).length=(cZ d.name u (d.items.take y)).length:=fun e=>by rw[e]at ht;exact⟨aB hk lc,k+1,by omega,by omega,by omega,ht.symm,by rw[ht];rfl⟩
  refine⟨by omega,aa (fun e=>?_) (fun e=>no (Pr.2 e))⟩;have y:=yes e
  first
  |exact⟨⟨hN,ho⟩,by rw[Ov];omega,y⟩
  |exact⟨by omega,by rw[Ov];omega,y⟩
 ·replace h:¬((k:Int)<(d.items.length:Int)):=fun e=>h (Xd e);have e:k=d.items.length:=by omega
  rw[e,OO]
theorem HU(n:Nat)(m:List (Nam×Int))(s:Shape)(hs:Wf (.st .shape) s)(ho:sz s<=n+1/\m.length+(useS s).length<=9000000000000000000) :
  let A:=(0:Int);let B:=(↑(mix m {pkg:=s.pkg,name:=s.name:Nam}):Int);let C:=(cw m {pkg:=s.pkg,name:=s.name:Nam});let D:=(bO m {pkg:=s.pkg,name:=s.name:Nam} (Option.getD C A));let E:=s=s;let F:=s.parts=s.parts;let G:=(↑(List.length s.parts):Int);let H:=(1:Int);let I:=aM m (rl s);let J:=E/\True;let K:=dfl (Ty.st SN.shape);let L:=(9000000000000000000:Nat);let M:=(∃(x:Nat),x<=List.length s.parts/\A=(↑x:Int)/\E/\false=false/\F/\G=G/\m=aM I (useSL (List.take x s.parts))/\J)/\∀(x:Nat),let N:=(↑x:Int);let O:=List.getD s.parts (Int.toNat N) K;let P:=useSL (List.take x s.parts);x<=List.length s.parts->if decide (N<G)=true then(A<=N/\N<G)/\(sz O<=n/\List.length (aM I P)+List.length (useS O)<=L)/\inR IntKind.i64 (N+H)/\∃(y:Nat),y<=List.length s.parts/\List.length s.parts-y<List.length s.parts-x/\N+H=(↑y:Int)/\E/\false=false/\F/\G=G/\aM (aM I P) (useS O)=aM I (useSL (List.take y s.parts))/\J else True/\aM I P=aM m (useS s)/\True;if decide (s.kind=(9:Int))=true then if(!decide (s.pkg=[]))=true then List.length m<=(9223372036854775807:Nat)/\(A<=B/\Int.toNat B<List.length D)/\(∃(x:Nat),x<=List.length s.parts/\A=(↑x:Int)/\E/\true=true/\F/\G=G/\iF D (Int.toNat B) (IntKind.wrap IntKind.i64 (Option.getD C A+H))=aM I (useSL (List.take x s.parts))/\J)/\∀(x:Nat),let N:=(↑x:Int);let O:=List.getD s.parts (Int.toNat N) K;let P:=useSL (List.take x s.parts);x<=List.length s.parts->if decide (N<G)=true then(A<=N/\N<G)/\(sz O<=n/\List.length (aM I P)+List.length (useS O)<=L)/\inR IntKind.i64 (N+H)/\∃(y:Nat),y<=List.length s.parts/\List.length s.parts-y<List.length s.parts-x/\N+H=(↑y:Int)/\E/\true=true/\F/\G=G/\aM (aM I P) (useS O)=aM I (useSL (List.take y s.parts))/\J else True/\aM I P=aM m (useS s)/\True else M else M:=by
 conv=>zeta
 have ln:=hs.parts.len;obtain⟨o1,o2⟩:=ho;have hz:=iN s;have hu:useS s=rl s++useSL s.parts:=Lj s;rw[hu,Oc]at o2
 have tail:∀x:Nat,x<=s.parts.length->if decide ((x:Int)<(s.parts.length:Int))=true then((0:Int)<=(x:Int)/\(x:Int)<(s.parts.length:Int))/\(sz (s.parts.getD x (dfl (.st .shape)))<=n/\(aM (aM m (rl s)) (useSL (s.parts.take x))).length+(useS (s.parts.getD x (dfl (.st .shape)))).length<=9000000000000000000)/\inR .i64 ((x:Int)+1)/\∃y:Nat,y<=s.parts.length/\s.parts.length-y<s.parts.length-x/\(x:Int)+1=(y:Int)/\aM (aM (aM m (rl s)) (useSL (s.parts.take x))) (useS (s.parts.getD x (dfl (.st .shape))))=aM (aM m (rl s)) (useSL (s.parts.take y))else aM (aM m (rl s)) (useSL (s.parts.take x))=aM m (useS s):=by
  intro k h1;apply aa<;>intro h
  ·replace h:=Xo h;have hk:k<s.parts.length:=by omega
   have hm:=eE (getD_mem s.parts k (dfl (.st .shape)) hk);have ht:=um s.parts k (dfl (.st .shape)) hk;have l1:=fC (useSL (s.parts.take k)) (aM m (rl s));have l2:=fC (rl s) m;have l3:=AY s.parts (k+1);rw[ht,Oc]at l3;exact⟨by omega,⟨by omega,by omega⟩,aB hk ln,k+1,by omega,by omega,by omega,by rw[ht,iC]⟩
  ·have e:k=s.parts.length:=by have:¬((k:Int)<(s.parts.length:Int)):=fun e=>h (Xd e);omega
   rw[e,OO,hu,iC]
 simp only[Oa,Pn,OM,OD];refine aa (fun h1=>aa (fun h2=>?_) (fun h2=>?_)) (fun h1=>?_)
 ·have h1:=Xo h1;have h2:s.pkg≠[]:=by simpa using h2
  have ho:rl s=[⟨s.pkg,s.name⟩]:=NY ⟨h1,h2⟩;rw[ho]at tail o2⊢;refine⟨by omega,⟨by omega,DG _ _ _⟩,⟨0,O9 _,rfl,?_⟩,tail⟩;rw[nY];rfl
 ·have h2:s.pkg=[]:=by simpa using h2
  have ho:rl s=[]:=NU fun q=>q.2 h2;rw[ho]at tail⊢;exact⟨⟨0,O9 _,rfl,rfl⟩,tail⟩
 ·have ho:rl s=[]:=NU fun q=>h1 (Xd q.1);rw[ho]at tail⊢;exact⟨⟨0,O9 _,rfl,rfl⟩,tail⟩
theorem KA(N n:Nat)(m:List (Nam×Int))(t:Trm)(ht:Wf (.st .term) t)(ho:szT t<=n+1/\allT (mxU N) t=true/\m.length+(useT t).length<=9000000000000000000) :
  let A:=(0:Int);let B:=(↑(mix m {pkg:=t.pkg,name:=t.name:Nam}):Int);let C:=(cw m {pkg:=t.pkg,name:=t.name:Nam});let D:=(bO m {pkg:=t.pkg,name:=t.name:Nam} (Option.getD C A));let E:=t=t;let F:=true=true;let G:=t.shapes=t.shapes;let H:=(↑(List.length t.shapes):Int);let I:=H=H;let J:=(1:Int);let K:=aM m (iE t);let L:=E/\True;let M:=dfl (Ty.st SN.shape);let O:=(9000000000000000000:Nat);let P:=false=false;let Q:=t.parts=t.parts;let R:=(↑(List.length t.parts):Int);let S:=aM K (useSL t.shapes);let T:=dfl (Ty.st SN.term);let U:=(∃(x:Nat),x<=List.length t.shapes/\A=(↑x:Int)/\E/\P/\G/\I/\m=aM K (useSL (List.take x t.shapes))/\L)/\∀(x:Nat),let V:=(↑x:Int);let W:=List.getD t.shapes (Int.toNat V) M;let X:=useSL (List.take x t.shapes);x<=List.length t.shapes->if decide (V<H)=true then(A<=V/\V<H)/\(sz W<=N/\List.length (aM K X)+List.length (useS W)<=O)/\inR IntKind.i64 (V+J)/\∃(y:Nat),y<=List.length t.shapes/\List.length t.shapes-y<List.length t.shapes-x/\V+J=(↑y:Int)/\E/\P/\G/\I/\aM (aM K X) (useS W)=aM K (useSL (List.take y t.shapes))/\L else(∃(x_1:Nat),x_1<=List.length t.parts/\A=(↑x_1:Int)/\V=V/\E/\P/\G/\I/\P/\Q/\R=R/\aM K X=aM S (useTL (List.take x_1 t.parts))/\L)/\∀(x_1:Nat),let Y:=(↑x_1:Int);let Z:=List.getD t.parts (Int.toNat Y) T;let a:=useTL (List.take x_1 t.parts);x_1<=List.length t.parts->if decide (Y<R)=true then(A<=Y/\Y<R)/\(szT Z<=n/\allT (mxU N) Z=true/\List.length (aM S a)+List.length (useT Z)<=O)/\inR IntKind.i64 (Y+J)/\∃(y:Nat),y<=List.length t.parts/\List.length t.parts-y<List.length t.parts-x_1/\Y+J=(↑y:Int)/\V=V/\E/\P/\G/\I/\P/\Q/\R=R/\aM (aM S a) (useT Z)=aM S (useTL (List.take y t.parts))/\L else True/\aM S a=aM m (useT t)/\True;if decide (t.kind=(5:Int))=true then if(!decide (t.pkg=[]))=true then List.length m<=(9223372036854775807:Nat)/\(A<=B/\Int.toNat B<List.length D)/\(∃(x:Nat),x<=List.length t.shapes/\A=(↑x:Int)/\E/\F/\G/\I/\iF D (Int.toNat B) (IntKind.wrap IntKind.i64 (Option.getD C A+J))=aM K (useSL (List.take x t.shapes))/\L)/\∀(x:Nat),let V:=(↑x:Int);let W:=List.getD t.shapes (Int.toNat V) M;let X:=useSL (List.take x t.shapes);x<=List.length t.shapes->if decide (V<H)=true then(A<=V/\V<H)/\(sz W<=N/\List.length (aM K X)+List.length (useS W)<=O)/\inR IntKind.i64 (V+J)/\∃(y:Nat),y<=List.length t.shapes/\List.length t.shapes-y<List.length t.shapes-x/\V+J=(↑y:Int)/\E/\F/\G/\I/\aM (aM K X) (useS W)=aM K (useSL (List.take y t.shapes))/\L else(∃(x_1:Nat),x_1<=List.length t.parts/\A=(↑x_1:Int)/\V=V/\E/\F/\G/\I/\P/\Q/\R=R/\aM K X=aM S (useTL (List.take x_1 t.parts))/\L)/\∀(x_1:Nat),let Y:=(↑x_1:Int);let Z:=List.getD t.parts (Int.toNat Y) T;let a:=useTL (List.take x_1 t.parts);x_1<=List.length t.parts->if decide (Y<R)=true then(A<=Y/\Y<R)/\(szT Z<=n/\allT (mxU N) Z=true/\List.length (aM S a)+List.length (useT Z)<=O)/\inR IntKind.i64 (Y+J)/\∃(y:Nat),y<=List.length t.parts/\List.length t.parts-y<List.length t.parts-x_1/\Y+J=(↑y:Int)/\V=V/\E/\F/\G/\I/\P/\Q/\R=R/\aM (aM S a) (useT Z)=aM S (useTL (List.take y t.parts))/\L else True/\aM S a=aM m (useT t)/\True else U else U:=by
 conv=>zeta
 have ls:=ht.term_shapes.len;have lp:=ht.term_parts.len;obtain⟨o1,o3,o2⟩:=ho;have hz:=jh t;have hu:useT t=iE t++(useSL t.shapes++useTL t.parts):=mK t;rw[hu,Oc,Oc]at o2;rw[allT_eq,NT,allTL_all,O5]at o3;have o4:=o3.1;rw[mxU,O5]at o4;have l2:=fC (iE t) m
 have tail2:∀x:Nat,x<=t.parts.length->if decide ((x:Int)<(t.parts.length:Int))=true then((0:Int)<=(x:Int)/\(x:Int)<(t.parts.length:Int))/\(szT (t.parts.getD x (dfl (.st .term)))<=n/\allT (mxU N) (t.parts.getD x (dfl (.st .term)))=true/\(aM (aM (aM m (iE t)) (useSL t.shapes)) (useTL (t.parts.take x))).length+(useT (t.parts.getD x (dfl (.st .term)))).length<=9000000000000000000)/\inR .i64 ((x:Int)+1)/\∃y:Nat,y<=t.parts.length/\t.parts.length-y<t.parts.length-x/\(x:Int)+1=(y:Int)/\aM (aM (aM (aM m (iE t)) (useSL t.shapes)) (useTL (t.parts.take x))) (useT (t.parts.getD x (dfl (.st .term))))=aM (aM (aM m (iE t)) (useSL t.shapes)) (useTL (t.parts.take y))else aM (aM (aM m (iE t)) (useSL t.shapes)) (useTL (t.parts.take x))=aM m (useT t):=by
  intro k h1;apply aa<;>intro h
  ·replace h:=Xo h;have hk:k<t.parts.length:=by omega
   have hmm:=getD_mem t.parts k (dfl (.st .term)) hk;have hm:=jC hmm;have hh:=DH t.parts k (dfl (.st .term)) hk;have l1:=fC (useTL (t.parts.take k)) (aM (aM m (iE t)) (useSL t.shapes));have l5:=fC (useSL t.shapes) (aM m (iE t));have l3:=JB t.parts (k+1);rw[hh,Oc]at l3;exact⟨by omega,⟨by omega,o3.2 _ hmm,by omega⟩,aB hk lp,k+1,by omega,by omega,by omega,by rw[hh,iC (aM (aM m (iE t)) (useSL t.shapes))]⟩
  ·have e:k=t.parts.length:=by have:¬((k:Int)<(t.parts.length:Int)):=fun e=>h (Xd e);omega
   rw[e,OO,hu,iC,iC]
 have tail:∀x:Nat,x<=t.shapes.length->if decide ((x:Int)<(t.shapes.length:Int))=true then((0:Int)<=(x:Int)/\(x:Int)<(t.shapes.length:Int))/\(sz (t.shapes.getD x (dfl (.st .shape)))<=N/\(aM (aM m (iE t)) (useSL (t.shapes.take x))).length+(useS (t.shapes.getD x (dfl (.st .shape)))).length<=9000000000000000000)/\inR .i64 ((x:Int)+1)/\∃y:Nat,y<=t.shapes.length/\t.shapes.length-y<t.shapes.length-x/\(x:Int)+1=(y:Int)/\aM (aM (aM m (iE t)) (useSL (t.shapes.take x))) (useS (t.shapes.getD x (dfl (.st .shape))))=aM (aM m (iE t)) (useSL (t.shapes.take y))else(∃z:Nat,z<=t.parts.length/\(0:Int)=(z:Int)/\aM (aM m (iE t)) (useSL (t.shapes.take x))=aM (aM (aM m (iE t)) (useSL t.shapes)) (useTL (t.parts.take z)))/\∀q:Nat,q<=t.parts.length->if decide ((q:Int)<(t.parts.length:Int))=true then((0:Int)<=(q:Int)/\(q:Int)<(t.parts.length:Int))/\(szT (t.parts.getD q (dfl (.st .term)))<=n/\allT (mxU N) (t.parts.getD q (dfl (.st .term)))=true/\(aM (aM (aM m (iE t)) (useSL t.shapes)) (useTL (t.parts.take q))).length+(useT (t.parts.getD q (dfl (.st .term)))).length<=9000000000000000000)/\inR .i64 ((q:Int)+1)/\∃y:Nat,y<=t.parts.length/\t.parts.length-y<t.parts.length-q/\(q:Int)+1=(y:Int)/\aM (aM (aM (aM m (iE t)) (useSL t.shapes)) (useTL (t.parts.take q))) (useT (t.parts.getD q (dfl (.st .term))))=aM (aM (aM m (iE t)) (useSL t.shapes)) (useTL (t.parts.take y))else aM (aM (aM m (iE t)) (useSL t.shapes)) (useTL (t.parts.take q))=aM m (useT t):=by
  intro k h1;apply aa<;>intro h
  ·replace h:=Xo h;have hk:k<t.shapes.length:=by omega
   have hmm:=getD_mem t.shapes k (dfl (.st .shape)) hk;have hh:=um t.shapes k (dfl (.st .shape)) hk;have l1:=fC (useSL (t.shapes.take k)) (aM m (iE t));have l3:=AY t.shapes (k+1);rw[hh,Oc]at l3;exact⟨by omega,⟨Xo (o4 _ hmm),by omega⟩,aB hk ls,k+1,by omega,by omega,by omega,by rw[hh,iC (aM m (iE t))]⟩
  ·have e:k=t.shapes.length:=by have:¬((k:Int)<(t.shapes.length:Int)):=fun e=>h (Xd e);omega
   exact⟨⟨0,O9 _,rfl,by rw[e,OO];rfl⟩,tail2⟩
 clear tail2 o3 o4;simp only[Oa,Pn,OM,OD];refine aa (fun h1=>aa (fun h2=>?_) (fun h2=>?_)) (fun h1=>?_)
 ·have h1:=Xo h1;have h2:t.pkg≠[]:=by simpa using h2
  have ho:iE t=[⟨t.pkg,t.name⟩]:=NY ⟨h1,h2⟩;rw[ho]at tail o2⊢;refine⟨by omega,⟨by omega,DG _ _ _⟩,⟨0,O9 _,rfl,?_⟩,tail⟩;rw[nY];rfl
 ·have h2:t.pkg=[]:=by simpa using h2
  have ho:iE t=[]:=NU fun q=>q.2 h2;rw[ho]at tail⊢;exact⟨⟨0,O9 _,rfl,rfl⟩,tail⟩
 ·have ho:iE t=[]:=NU fun q=>h1 (Xd q.1);rw[ho]at tail⊢;exact⟨⟨0,O9 _,rfl,rfl⟩,tail⟩
theorem KB(m:List (Nam×Int))  :
  True/\m=m/\True:=by
 exact Xr
theorem KC(m:Modu)(hm:Wf (.st .modu) m)(ho:m.decls.all di=true/\m.decls.length<=60) :
  let A:=(0:Int);let B:=bS m=A;let C:=m.decls=m.decls;let D:=(↑(List.length m.decls):Int);let E:=m=m/\True;let F:=dfl (Ty.st SN.decl);let G:=(9000000000000000000:Nat);(List.all m.decls di=true/\List.length m.decls<=(1000000:Nat))/\if(!decide (B))=true then True/\fc m=[]/\True else(∃(x:Nat),(B/\x<=List.length m.decls)/\A=(↑x:Int)/\m=m/\false=false/\C/\D=D/\[]=aM [] (cE (List.take x m.decls))/\E)/\∀(x:Nat),let H:=(↑x:Int);let I:=List.getD m.decls (Int.toNat H) F;let J:=aM [] (cE (List.take x m.decls));let K:=useS I.shape;B/\x<=List.length m.decls->if decide (H<D)=true then(A<=H/\H<D)/\(sz I.shape<=(400:Nat)/\List.length J+List.length K<=G)/\(szT I.term<=(4096:Nat)/\allT (mxU (400:Nat)) I.term=true/\List.length (aM J K)+List.length (useT I.term)<=G)/\inR IntKind.i64 (H+(1:Int))/\∃(y:Nat),(B/\y<=List.length m.decls)/\List.length m.decls-y<List.length m.decls-x/\H+(1:Int)=(↑y:Int)/\m=m/\false=false/\C/\D=D/\aM (aM J K) (useT I.term)=aM [] (cE (List.take y m.decls))/\E else List.length J*(32:Nat)<=(140737488355328:Nat)/\True/\gB (List.map (fun(x:den (Ty.st SN.nm)×den (Ty.int IntKind.i64))=>x.1) J)=fc m/\True:=by
 conv=>zeta
 obtain⟨o1,o2⟩:=ho;have ld:=hm.modu_decls.len;simp only[Oa,Pn,OM,OD];refine⟨⟨o1,by omega⟩,aa (fun h=>?_) (fun h=>?_)⟩
 ·exact NU fun e=>by rw[Xd e]at h;cases h
 have h:bS m=0:=by simpa using h
 obtain⟨q1,q2⟩:=JD h o2;refine⟨⟨0,⟨h,O9 _⟩,rfl,rfl⟩,?_⟩;rintro k ⟨_,h1⟩;apply aa<;>intro c
 ·have c:=Xo c;have hk:k<m.decls.length:=by omega
  obtain⟨u1,u2,u3,u4⟩:=q1 _ (getD_mem m.decls k (dfl (.st .decl)) hk);have l1:=fC (cE (m.decls.take k)) [];have l2:=fC (useS (m.decls.getD k (dfl (.st .decl))).shape) (aM [] (cE (m.decls.take k)));have l3:=JC m.decls k;have ht:=DI m.decls k (dfl (.st .decl)) hk;rw[qN,Oc]at u4;rw[OH]at l1;exact⟨by omega,⟨u1,by omega⟩,⟨u2,u3,by omega⟩,aB hk ld,k+1,⟨h,by omega⟩,by omega,by omega,by rw[ht,iC,qN,iC]⟩
 ·have e:k=m.decls.length:=by have:¬((k:Int)<(m.decls.length:Int)):=fun e=>c (Xd e);omega
  subst e;rw[OO];have l1:=fC (cE m.decls) [];rw[OH]at l1;exact⟨by omega,Kw h⟩
end Go.AL.Seat
end
