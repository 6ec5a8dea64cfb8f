/- The layer: Go code as conditions, and that they are sound. No condition. -/
import Derived.KernelRfl
import Derived.Laws.AppendOwn
import Derived.Laws.CopyRow
import Derived.Laws.StructEq
import Derived.Lib.FrozenHead
import Derived.Orders
set_option linter.all false
set_option maxRecDepth 100000
theorem Xr {p:Prop} (h:p:=by repeat (first | exact trivial | refine ⟨by first | rfl | trivial,?_⟩)):p:=h
theorem Xo {p:Prop} [Decidable p] (h:decide p=true):p:=of_decide_eq_true h
theorem Xd {p:Prop} [Decidable p] (h:p):decide p=true:=decide_eq_true h
theorem Xt {P:Go.Program} {k:Nat} {f g:Go.Func} (h:P.funcs[k]?=some f) (e:f=g:=by kernel_rfl):P.funcs[k]?=some g:=h.trans (congrArg some e)
theorem Xs {α:Type _} (a b:α):(some a=some b)=(a=b):=Option.some.injEq a b
theorem Xf {p:Prop} [Decidable p] (h:¬p):decide p=false:=decide_eq_false h
noncomputable section
namespace Go.AL
abbrev Str:=List UInt8
structure Shape where
 kind:Int
 pkg:Str
 name:Str
 names:List Str
 parts:List Shape
instance:Inhabited Shape:=⟨⟨0,[],[],[],[]⟩⟩
structure Item where
 kind:Int
 name:Str
 shape:Shape
instance:Inhabited Item:=⟨⟨0,[],default⟩⟩
structure Change where
 kind:Int
 name:Str
instance:Inhabited Change:=⟨⟨0,[]⟩⟩
structure Tokn where
 kind:Int
 text:Str
 pos:Int
instance:Inhabited Tokn:=⟨⟨0,[],0⟩⟩
structure Flt where
 err:Int
 pos:Int
instance:Inhabited Flt:=⟨⟨0,0⟩⟩
structure Trm where
 kind:Int
 pkg:Str
 name:Str
 n:Int
 names:List Str
 vars:List Str
 shapes:List Shape
 parts:List Trm
 pos:Int
instance:Inhabited Trm:=⟨⟨0,[],[],0,[],[],[],[],0⟩⟩
structure Vers where
 major:Int
 minor:Int
 patch:Int
 pre:Str
instance:Inhabited Vers:=⟨⟨0,0,0,[]⟩⟩
structure Bnd where
 op:Int
 v:Vers
instance:Inhabited Bnd:=⟨⟨0,default⟩⟩
structure Impt where
 name:Str
 pin:Vers
 range:List Bnd
 pos:Int
instance:Inhabited Impt:=⟨⟨[],default,[],0⟩⟩
structure Dcl where
 kind:Int
 name:Str
 shape:Shape
 term:Trm
 pos:Int
instance:Inhabited Dcl:=⟨⟨0,[],default,default,0⟩⟩
structure Modu where
 name:Str
 imports:List Impt
 decls:List Dcl
 exports:List Str
 pos:Int
instance:Inhabited Modu:=⟨⟨[],[],[],[],0⟩⟩
structure Bndg where
 pkg:Str
 name:Str
 shape:Shape
instance:Inhabited Bndg:=⟨⟨[],[],default⟩⟩
structure Envt where
 self:Str
 types:List Bndg
 values:List Bndg
 own:List Bndg
instance:Inhabited Envt:=⟨⟨[],[],[],[]⟩⟩
structure Depd where
 name:Str
 items:List Item
instance:Inhabited Depd:=⟨⟨[],[]⟩⟩
structure Vlu where
 kind:Int
 n:Int
 pkg:Str
 text:Str
 names:List Str
 parts:List Vlu
instance:Inhabited Vlu:=⟨⟨0,0,[],[],[],[]⟩⟩
structure Cel where
 name:Str
 value:Vlu
instance:Inhabited Cel:=⟨⟨[],default⟩⟩
structure Opn where
 kind:Int
 n:Int
 name:Str
 names:List Str
 tos:List Int
 pos:Int
instance:Inhabited Opn:=⟨⟨0,0,[],[],[],0⟩⟩
structure Chnk where
 args:Int
 ops:List Opn
instance:Inhabited Chnk:=⟨⟨0,[]⟩⟩
structure Usg where
 pkg:Str
 name:Str
instance:Inhabited Usg:=⟨⟨[],[]⟩⟩
structure Nam where
 pkg:Str
 name:Str
 deriving DecidableEq
instance:Inhabited Nam:=⟨⟨[],[]⟩⟩
structure Stt where
 things:Int
 names:Int
instance:Inhabited Stt:=⟨⟨0,0⟩⟩
structure Par where
 toks:List Tokn
 pos:Int
 err:Int
 fat:Int
instance:Inhabited Par:=⟨⟨[],0,0,0⟩⟩
structure Rstt where
 known:Bool
 things:Int
 names:Int
instance:Inhabited Rstt:=⟨⟨false,0,0⟩⟩
mutual
inductive Thg where
 | mk (kind:Int) (n:Int) (pkg:Str) (text:Str) (names:List Str) (parts:List Thg) (fn:Option Fnc)
inductive Fnc where
 | mk (scp:Option Scp) (self:Str) (names:List Str) (body:Option Trm) (basic:Str) (args:Int)
inductive Scp where
 | mk (pkg:Str) (name:Str) (what:Thg) (rest:Option Scp)
end
def Thg.kind:Thg→Int | ⟨x,_,_,_,_,_,_⟩=>x
def Thg.n:Thg→Int | ⟨_,x,_,_,_,_,_⟩=>x
def Thg.pkg:Thg→Str | ⟨_,_,x,_,_,_,_⟩=>x
def Thg.text:Thg→Str | ⟨_,_,_,x,_,_,_⟩=>x
def Thg.names:Thg→List Str | ⟨_,_,_,_,x,_,_⟩=>x
def Thg.parts:Thg→List Thg | ⟨_,_,_,_,_,x,_⟩=>x
def Thg.fn:Thg→Option Fnc | ⟨_,_,_,_,_,_,x⟩=>x
def Fnc.scp:Fnc→Option Scp | ⟨x,_,_,_,_,_⟩=>x
def Fnc.self:Fnc→Str | ⟨_,x,_,_,_,_⟩=>x
def Fnc.names:Fnc→List Str | ⟨_,_,x,_,_,_⟩=>x
def Fnc.body:Fnc→Option Trm | ⟨_,_,_,x,_,_⟩=>x
def Fnc.basic:Fnc→Str | ⟨_,_,_,_,x,_⟩=>x
def Fnc.args:Fnc→Int | ⟨_,_,_,_,_,x⟩=>x
def Scp.pkg:Scp→Str | ⟨x,_,_,_⟩=>x
def Scp.name:Scp→Str | ⟨_,x,_,_⟩=>x
def Scp.what:Scp→Thg | ⟨_,_,x,_⟩=>x
def Scp.rest:Scp→Option Scp | ⟨_,_,_,x⟩=>x
instance:Inhabited Thg:=⟨⟨0,0,[],[],[],[],none⟩⟩
instance:Inhabited Fnc:=⟨⟨none,[],[],none,[],0⟩⟩
instance:Inhabited Scp:=⟨⟨[],[],default,none⟩⟩
structure Plc where
 scp:Option Scp
 self:Str
instance:Inhabited Plc:=⟨⟨none,[]⟩⟩
inductive SN where
 | shape | item | change | token | fault | term | version | bound | imp | decl | modu | bind | env | dep | val | cell | op | chunk | usg | nm | stt | par | rstt | thing | func | scope | plc
 deriving DecidableEq
inductive Ty where
 | int (k:IntKind) | bool | str | lst (t:Ty) | st (n:SN) | pt (n:SN)
 deriving DecidableEq
@[reducible] def SD:SN→Type
 | .shape=>Shape
 | .item=>Item
 | .change=>Change
 | .token=>Tokn
 | .fault=>Flt
 | .term=>Trm
 | .version=>Vers
 | .bound=>Bnd
 | .imp=>Impt
 | .decl=>Dcl
 | .modu=>Modu
 | .bind=>Bndg
 | .env=>Envt
 | .dep=>Depd
 | .val=>Vlu
 | .cell=>Cel
 | .op=>Opn
 | .chunk=>Chnk
 | .usg=>Usg
 | .nm=>Nam
 | .stt=>Stt
 | .par=>Par
 | .rstt=>Rstt
 | .thing=>Thg
 | .func=>Fnc
 | .scope=>Scp
 | .plc=>Plc
@[reducible] def den:Ty→Type
 | .int _=>Int
 | .bool=>Bool
 | .str=>Str
 | .lst t=>List (den t)
 | .st n=>SD n
 | .pt n=>Option (SD n)
def dfl:(τ:Ty)→den τ
 | .int _=>(0:Int)
 | .bool=>false
 | .str=>([]:Str)
 | .lst _=>[]
 | .pt _=>none
 | .st .shape=>(default:Shape)
 | .st .item=>(default:Item)
 | .st .change=>(default:Change)
 | .st .token=>(default:Tokn)
 | .st .fault=>(default:Flt)
 | .st .term=>(default:Trm)
 | .st .version=>(default:Vers)
 | .st .bound=>(default:Bnd)
 | .st .imp=>(default:Impt)
 | .st .decl=>(default:Dcl)
 | .st .modu=>(default:Modu)
 | .st .bind=>(default:Bndg)
 | .st .env=>(default:Envt)
 | .st .dep=>(default:Depd)
 | .st .val=>(default:Vlu)
 | .st .cell=>(default:Cel)
 | .st .op=>(default:Opn)
 | .st .chunk=>(default:Chnk)
 | .st .usg=>(default:Usg)
 | .st .nm=>(default:Nam)
 | .st .stt=>(default:Stt)
 | .st .par=>(default:Par)
 | .st .rstt=>(default:Rstt)
 | .st .thing=>(default:Thg)
 | .st .func=>(default:Fnc)
 | .st .scope=>(default:Scp)
 | .st .plc=>(default:Plc)
inductive AV where
 | undef
 | int (k:IntKind) (n:Int)
 | bool (b:Bool)
 | str (s:Str)
 | lst (τ:Ty) (xs:List (den τ)) (o:Option Nat)
 | nils
 | ptr (id off:Nat)
 | cptr (c:AV)
 | nilp
 | pt (n:SN) (x:Option (SD n))
 | st (n:SN) (x:SD n)
 | agg (cs:List AV)
 | tup (vs:List AV)
 | fn (f:Nat) (cs:List AV)
 | row (τ:Ty) (xs:List (den τ))
 | arr (id n w:Nat)
 | aptr (id i w off:Nat)
 | map (id:Nat)
 | bptr (id:Nat)
 | iface (t:Nat) (a:AV)
 | nilif
 | nilm
 | lstp (τ:Ty) (xs:List (den τ)) (k:Nat)
 | tptr (τ:Ty) (n k:Nat)
 | glst (s n k:Nat)
 | gptr (k s i w off:Nat)
instance:Inhabited AV:=⟨.undef⟩
def bE (x:Shape):List AV:=.int .i64 x.kind ::(.str x.pkg ::(.str x.name ::(.lst .str x.names none ::(.lst (.st .shape) x.parts none ::[]))))
def da (x:Item):List AV:=.int .i64 x.kind ::(.str x.name ::(bE x.shape++[]))
def bQ (x:Change):List AV:=.int .i64 x.kind ::(.str x.name ::[])
def cm (x:Tokn):List AV:=.int .i64 x.kind ::(.str x.text ::(.int .i64 x.pos ::[]))
def cn (x:Flt):List AV:=.int .i64 x.err ::(.int .i64 x.pos ::[])
def cE (x:Trm):List AV:=.int .i64 x.kind ::(.str x.pkg ::(.str x.name ::(.int .i64 x.n ::(.lst .str x.names none ::(.lst .str x.vars none ::(.lst (.st .shape) x.shapes none ::(.lst (.st .term) x.parts none ::(.int .i64 x.pos ::[]))))))))
def bn (x:Vers):List AV:=.int .i64 x.major ::(.int .i64 x.minor ::(.int .i64 x.patch ::(.str x.pre ::[])))
def cq (x:Bnd):List AV:=.int .i64 x.op ::(bn x.v++[])
def dX (x:Impt):List AV:=.str x.name ::(bn x.pin++(.lst (.st .bound) x.range none ::(.int .i64 x.pos ::[])))
def db (x:Dcl):List AV:=.int .i64 x.kind ::(.str x.name ::(bE x.shape++(cE x.term++(.int .i64 x.pos ::[]))))
def dc (x:Modu):List AV:=.str x.name ::(.lst (.st .imp) x.imports none ::(.lst (.st .decl) x.decls none ::(.lst .str x.exports none ::(.int .i64 x.pos ::[]))))
def de (x:Bndg):List AV:=.str x.pkg ::(.str x.name ::(bE x.shape++[]))
def dY (x:Envt):List AV:=.str x.self ::(.lst (.st .bind) x.types none ::(.lst (.st .bind) x.values none ::(.lst (.st .bind) x.own none ::[])))
def dZ (x:Depd):List AV:=.str x.name ::(.lst (.st .item) x.items none ::[])
def dr (x:Vlu):List AV:=.int .i64 x.kind ::(.int .i64 x.n ::(.str x.pkg ::(.str x.text ::(.lst .str x.names none ::(.lst (.st .val) x.parts none ::[])))))
def df (x:Cel):List AV:=.str x.name ::(dr x.value++[])
def fq (x:Opn):List AV:=.int .i64 x.kind ::(.int .i64 x.n ::(.str x.name ::(.lst .str x.names none ::(.lst (.int .i64) x.tos none ::(.int .i64 x.pos ::[])))))
def cr (x:Chnk):List AV:=.int .i64 x.args ::(.lst (.st .op) x.ops none ::[])
def ea (x:Usg):List AV:=.str x.pkg ::(.str x.name ::[])
def dt (x:Nam):List AV:=.str x.pkg ::(.str x.name ::[])
def ec (x:Stt):List AV:=.int .i64 x.things ::(.int .i64 x.names ::[])
def ed (x:Par):List AV:=.lst (.st .token) x.toks none ::(.int .i64 x.pos ::(.int .i64 x.err ::(.int .i64 x.fat ::[])))
def dh (x:Rstt):List AV:=.bool x.known ::(.int .i64 x.things ::(.int .i64 x.names ::[]))
def bU (x:Thg):List AV:=.int .i64 x.kind ::(.int .i64 x.n ::(.str x.pkg ::(.str x.text ::(.lst .str x.names none ::(.lst (.st .thing) x.parts none ::(.pt .func x.fn ::[]))))))
def di (x:Fnc):List AV:=.pt .scope x.scp ::(.str x.self ::(.lst .str x.names none ::(.pt .term x.body ::(.str x.basic ::(.int .i64 x.args ::[])))))
def ct (x:Scp):List AV:=.str x.pkg ::(.str x.name ::(bU x.what++(.pt .scope x.rest ::[])))
def eh (x:Plc):List AV:=.pt .scope x.scp ::(.str x.self ::[])
def cells:(τ:Ty)→den τ→List AV
 | .int k,n=>[.int k n]
 | .bool,b=>[.bool b]
 | .str,s=>[.str s]
 | .lst t,l=>[.lst t l none]
 | .pt n,x=>[.pt n x]
 | .st .shape,x=>bE x
 | .st .item,x=>da x
 | .st .change,x=>bQ x
 | .st .token,x=>cm x
 | .st .fault,x=>cn x
 | .st .term,x=>cE x
 | .st .version,x=>bn x
 | .st .bound,x=>cq x
 | .st .imp,x=>dX x
 | .st .decl,x=>db x
 | .st .modu,x=>dc x
 | .st .bind,x=>de x
 | .st .env,x=>dY x
 | .st .dep,x=>dZ x
 | .st .val,x=>dr x
 | .st .cell,x=>df x
 | .st .op,x=>fq x
 | .st .chunk,x=>cr x
 | .st .usg,x=>ea x
 | .st .nm,x=>dt x
 | .st .stt,x=>ec x
 | .st .par,x=>ed x
 | .st .rstt,x=>dh x
 | .st .thing,x=>bU x
 | .st .func,x=>di x
 | .st .scope,x=>ct x
 | .st .plc,x=>eh x
def a7:Ty→Nat
 | .st .shape=>5
 | .st .item=>7
 | .st .change=>2
 | .st .token=>3
 | .st .fault=>2
 | .st .term=>9
 | .st .version=>4
 | .st .bound=>5
 | .st .imp=>7
 | .st .decl=>17
 | .st .modu=>5
 | .st .bind=>7
 | .st .env=>4
 | .st .dep=>2
 | .st .val=>6
 | .st .cell=>7
 | .st .op=>6
 | .st .chunk=>2
 | .st .usg=>2
 | .st .nm=>2
 | .st .stt=>2
 | .st .par=>4
 | .st .rstt=>3
 | .st .thing=>7
 | .st .func=>6
 | .st .scope=>10
 | .st .plc=>2
 | _=>1
def gL (n m:SN) (x:SD n):Option (SD m):=if h:n=m then some (h ▸ x) else none
def cM (τ σ:Ty) (xs:List (den τ)):Option (List (den σ)):=if h:τ=σ then some (h ▸ xs) else none
def asInt (k:IntKind):AV→Option Int
 | .int k' n=>if k'=k then some n else none
 | _=>none
def lh:AV→Option Bool
 | .bool b=>some b
 | _=>none
def bq:AV→Option Str
 | .str s=>some s
 | _=>none
def bR (σ:Ty):AV→Option (List (den σ))
 | .lst τ xs _=>cM τ σ xs
 | .nils=>some []
 | _=>none
def kF (n m:SN) (x:Option (SD n)):Option (Option (SD m)):=if h:n=m then some (h ▸ x) else none
def qd (n:SN):AV→Option (Option (SD n))
 | .pt m x=>kF m n x
 | .nilp=>some none
 | .cptr (.st m x)=>kF m n (some x)
 | _=>none
def eQ:List AV→Option Shape
 | [c0,c1,c2,c3,c4]=>
  match asInt .i64 c0,bq c1,bq c2,bR .str c3,bR (.st .shape) c4 with
  | some x0,some x1,some x2,some x3,some x4=>some ⟨x0,x1,x2,x3,x4⟩
  | _,_,_,_,_=>none
 | _=>none
def lG:List AV→Option Item
 | [c0,c1,c2,c3,c4,c5,c6]=>
  match asInt .i64 c0,bq c1,eQ [c2,c3,c4,c5,c6] with
  | some x0,some x1,some x2=>some ⟨x0,x1,x2⟩
  | _,_,_=>none
 | _=>none
def iW:List AV→Option Change
 | [c0,c1]=>
  match asInt .i64 c0,bq c1 with
  | some x0,some x1=>some ⟨x0,x1⟩
  | _,_=>none
 | _=>none
def jL:List AV→Option Tokn
 | [c0,c1,c2]=>
  match asInt .i64 c0,bq c1,asInt .i64 c2 with
  | some x0,some x1,some x2=>some ⟨x0,x1,x2⟩
  | _,_,_=>none
 | _=>none
def jM:List AV→Option Flt
 | [c0,c1]=>
  match asInt .i64 c0,asInt .i64 c1 with
  | some x0,some x1=>some ⟨x0,x1⟩
  | _,_=>none
 | _=>none
def jh:List AV→Option Trm
 | [c0,c1,c2,c3,c4,c5,c6,c7,c8]=>
  match asInt .i64 c0,bq c1,bq c2,asInt .i64 c3,bR .str c4,bR .str c5,bR (.st .shape) c6,bR (.st .term) c7,asInt .i64 c8 with
  | some x0,some x1,some x2,some x3,some x4,some x5,some x6,some x7,some x8=>some ⟨x0,x1,x2,x3,x4,x5,x6,x7,x8⟩
  | _,_,_,_,_,_,_,_,_=>none
 | _=>none
def ek:List AV→Option Vers
 | [c0,c1,c2,c3]=>
  match asInt .i64 c0,asInt .i64 c1,asInt .i64 c2,bq c3 with
  | some x0,some x1,some x2,some x3=>some ⟨x0,x1,x2,x3⟩
  | _,_,_,_=>none
 | _=>none
def jN:List AV→Option Bnd
 | [c0,c1,c2,c3,c4]=>
  match asInt .i64 c0,ek [c1,c2,c3,c4] with
  | some x0,some x1=>some ⟨x0,x1⟩
  | _,_=>none
 | _=>none
def oP:List AV→Option Impt
 | [c0,c1,c2,c3,c4,c5,c6]=>
  match bq c0,ek [c1,c2,c3,c4],bR (.st .bound) c5,asInt .i64 c6 with
  | some x0,some x1,some x5,some x6=>some ⟨x0,x1,x5,x6⟩
  | _,_,_,_=>none
 | _=>none
def lH:List AV→Option Dcl
 | [c0,c1,c2,c3,c4,c5,c6,c7,c8,c9,c10,c11,c12,c13,c14,c15,c16]=>
  match asInt .i64 c0,bq c1,eQ [c2,c3,c4,c5,c6],jh [c7,c8,c9,c10,c11,c12,c13,c14,c15],asInt .i64 c16 with
  | some x0,some x1,some x2,some x7,some x16=>some ⟨x0,x1,x2,x7,x16⟩
  | _,_,_,_,_=>none
 | _=>none
def lI:List AV→Option Modu
 | [c0,c1,c2,c3,c4]=>
  match bq c0,bR (.st .imp) c1,bR (.st .decl) c2,bR .str c3,asInt .i64 c4 with
  | some x0,some x1,some x2,some x3,some x4=>some ⟨x0,x1,x2,x3,x4⟩
  | _,_,_,_,_=>none
 | _=>none
def lJ:List AV→Option Bndg
 | [c0,c1,c2,c3,c4,c5,c6]=>
  match bq c0,bq c1,eQ [c2,c3,c4,c5,c6] with
  | some x0,some x1,some x2=>some ⟨x0,x1,x2⟩
  | _,_,_=>none
 | _=>none
def oQ:List AV→Option Envt
 | [c0,c1,c2,c3]=>
  match bq c0,bR (.st .bind) c1,bR (.st .bind) c2,bR (.st .bind) c3 with
  | some x0,some x1,some x2,some x3=>some ⟨x0,x1,x2,x3⟩
  | _,_,_,_=>none
 | _=>none
def oR:List AV→Option Depd
 | [c0,c1]=>
  match bq c0,bR (.st .item) c1 with
  | some x0,some x1=>some ⟨x0,x1⟩
  | _,_=>none
 | _=>none
def lj:List AV→Option Vlu
 | [c0,c1,c2,c3,c4,c5]=>
  match asInt .i64 c0,asInt .i64 c1,bq c2,bq c3,bR .str c4,bR (.st .val) c5 with
  | some x0,some x1,some x2,some x3,some x4,some x5=>some ⟨x0,x1,x2,x3,x4,x5⟩
  | _,_,_,_,_,_=>none
 | _=>none
def lK:List AV→Option Cel
 | [c0,c1,c2,c3,c4,c5,c6]=>
  match bq c0,lj [c1,c2,c3,c4,c5,c6] with
  | some x0,some x1=>some ⟨x0,x1⟩
  | _,_=>none
 | _=>none
def rM:List AV→Option Opn
 | [c0,c1,c2,c3,c4,c5]=>
  match asInt .i64 c0,asInt .i64 c1,bq c2,bR .str c3,bR (.int .i64) c4,asInt .i64 c5 with
  | some x0,some x1,some x2,some x3,some x4,some x5=>some ⟨x0,x1,x2,x3,x4,x5⟩
  | _,_,_,_,_,_=>none
 | _=>none
def jO:List AV→Option Chnk
 | [c0,c1]=>
  match asInt .i64 c0,bR (.st .op) c1 with
  | some x0,some x1=>some ⟨x0,x1⟩
  | _,_=>none
 | _=>none
def oS:List AV→Option Usg
 | [c0,c1]=>
  match bq c0,bq c1 with
  | some x0,some x1=>some ⟨x0,x1⟩
  | _,_=>none
 | _=>none
def rN:List AV→Option Nam
 | [c0,c1]=>
  match bq c0,bq c1 with
  | some x0,some x1=>some ⟨x0,x1⟩
  | _,_=>none
 | _=>none
def oU:List AV→Option Stt
 | [c0,c1]=>
  match asInt .i64 c0,asInt .i64 c1 with
  | some x0,some x1=>some ⟨x0,x1⟩
  | _,_=>none
 | _=>none
def oV:List AV→Option Par
 | [c0,c1,c2,c3]=>
  match bR (.st .token) c0,asInt .i64 c1,asInt .i64 c2,asInt .i64 c3 with
  | some x0,some x1,some x2,some x3=>some ⟨x0,x1,x2,x3⟩
  | _,_,_,_=>none
 | _=>none
def lL:List AV→Option Rstt
 | [c0,c1,c2]=>
  match lh c0,asInt .i64 c1,asInt .i64 c2 with
  | some x0,some x1,some x2=>some ⟨x0,x1,x2⟩
  | _,_,_=>none
 | _=>none
def iv:List AV→Option Thg
 | [c0,c1,c2,c3,c4,c5,c6]=>
  match asInt .i64 c0,asInt .i64 c1,bq c2,bq c3,bR .str c4,bR (.st .thing) c5,qd .func c6 with
  | some x0,some x1,some x2,some x3,some x4,some x5,some x6=>some ⟨x0,x1,x2,x3,x4,x5,x6⟩
  | _,_,_,_,_,_,_=>none
 | _=>none
def lM:List AV→Option Fnc
 | [c0,c1,c2,c3,c4,c5]=>
  match qd .scope c0,bq c1,bR .str c2,qd .term c3,bq c4,asInt .i64 c5 with
  | some x0,some x1,some x2,some x3,some x4,some x5=>some ⟨x0,x1,x2,x3,x4,x5⟩
  | _,_,_,_,_,_=>none
 | _=>none
def jP:List AV→Option Scp
 | [c0,c1,c2,c3,c4,c5,c6,c7,c8,c9]=>
  match bq c0,bq c1,iv [c2,c3,c4,c5,c6,c7,c8],qd .scope c9 with
  | some x0,some x1,some x2,some x9=>some ⟨x0,x1,x2,x9⟩
  | _,_,_,_=>none
 | _=>none
def oW:List AV→Option Plc
 | [c0,c1]=>
  match qd .scope c0,bq c1 with
  | some x0,some x1=>some ⟨x0,x1⟩
  | _,_=>none
 | _=>none
def lN:(τ:Ty)→List AV→Option (den τ)
 | .int k,[a]=>asInt k a
 | .bool,[a]=>lh a
 | .str,[a]=>bq a
 | .lst t,[a]=>bR t a
 | .pt n,[a]=>qd n a
 | .st .shape,cs=>eQ cs
 | .st .item,cs=>lG cs
 | .st .change,cs=>iW cs
 | .st .token,cs=>jL cs
 | .st .fault,cs=>jM cs
 | .st .term,cs=>jh cs
 | .st .version,cs=>ek cs
 | .st .bound,cs=>jN cs
 | .st .imp,cs=>oP cs
 | .st .decl,cs=>lH cs
 | .st .modu,cs=>lI cs
 | .st .bind,cs=>lJ cs
 | .st .env,cs=>oQ cs
 | .st .dep,cs=>oR cs
 | .st .val,cs=>lj cs
 | .st .cell,cs=>lK cs
 | .st .op,cs=>rM cs
 | .st .chunk,cs=>jO cs
 | .st .usg,cs=>oS cs
 | .st .nm,cs=>rN cs
 | .st .stt,cs=>oU cs
 | .st .par,cs=>oV cs
 | .st .rstt,cs=>lL cs
 | .st .thing,cs=>iv cs
 | .st .func,cs=>lM cs
 | .st .scope,cs=>jP cs
 | .st .plc,cs=>oW cs
 | _,_=>none
def xt:Ty→Bool
 | .st _=>true
 | _=>false
def inj:(τ:Ty)→den τ→AV
 | .int k,n=>.int k n
 | .bool,b=>.bool b
 | .str,s=>.str s
 | .lst t,l=>.lst t l none
 | .pt n,x=>.pt n x
 | .st n,x=>.st n x
def flat (τ:Ty) (xs:List (den τ)):List AV:=xs.flatMap (cells τ)
def a8:AV→List AV
 | .agg cs=>cs
 | .st n x=>cells (.st n) x
 | .row τ xs=>flat τ xs
 | a=>[a]
def arg:(τ:Ty)→AV→Option (den τ)
 | .st m,.st n x=>gL n m x
 | .st m,.agg cs=>lN (.st m) cs
 | .st _,_=>none
 | τ,a=>lN τ [a]
def gI:(n:SN)→Nat→SD n→Option AV
 | .item,2,x=>some (.st .shape (Item.shape x))
 | .bound,1,x=>some (.st .version (Bnd.v x))
 | .imp,1,x=>some (.st .version (Impt.pin x))
 | .decl,2,x=>some (.st .shape (Dcl.shape x))
 | .decl,7,x=>some (.st .term (Dcl.term x))
 | .bind,2,x=>some (.st .shape (Bndg.shape x))
 | .cell,1,x=>some (.st .val (Cel.value x))
 | .scope,2,x=>some (.st .thing (Scp.what x))
 | _,_,_=>none
def vE:(n:SN)→Nat→SD n→AV→Option AV
 | .item,2,x,.st .shape y=>some (.st .item ({(show Item from x) with shape:=y}:Item))
 | .bound,1,x,.st .version y=>some (.st .bound ({(show Bnd from x) with v:=y}:Bnd))
 | .imp,1,x,.st .version y=>some (.st .imp ({(show Impt from x) with pin:=y}:Impt))
 | .decl,2,x,.st .shape y=>some (.st .decl ({(show Dcl from x) with shape:=y}:Dcl))
 | .decl,7,x,.st .term y=>some (.st .decl ({(show Dcl from x) with term:=y}:Dcl))
 | .bind,2,x,.st .shape y=>some (.st .bind ({(show Bndg from x) with shape:=y}:Bndg))
 | .cell,1,x,.st .val y=>some (.st .cell ({(show Cel from x) with value:=y}:Cel))
 | .scope,2,x,.st .thing y=>some (.st .scope ⟨Scp.pkg x,Scp.name x,y,Scp.rest x⟩)
 | _,_,_,_=>none
inductive SObj where
 | box (c:AV)
 | tail (τ:Ty) (n:Nat)
 | map (κ τ:Ty) (m:List (den κ × den τ))
 | bld (t u:Nat) (l:Str)
 | tailp (τ:Ty) (n:Nat) (x:den τ)
 | grow (τ:Ty) (s:Nat) (xs:List (den τ))
structure St where
 t:List (Nat × AV)
 b:List (Nat × SObj)
def aJ (l:List (Nat × AV)) (i:Nat):AV:=List.rec .undef (fun p _ ih=>Bool.rec ih p.2 (Nat.beq p.1 i)) l
def fk (l:List (Nat × AV)) (i:Nat) (v:AV):List (Nat × AV):=List.rec [(i,v)] (fun p r ih=>Bool.rec (p ::ih) ((i,v) ::r) (Nat.beq p.1 i)) l
def ah (l:List (Nat × SObj)) (i:Nat):Option SObj:=List.rec none (fun p _ ih=>Bool.rec ih (some p.2) (Nat.beq p.1 i)) l
def l6 (l:List (Nat × SObj)) (i:Nat) (v:SObj):List (Nat × SObj):=List.rec [(i,v)] (fun p r ih=>Bool.rec (p ::ih) ((i,v) ::r) (Nat.beq p.1 i)) l
theorem ji {α:Type} {j i:Nat} (x y:α):(Bool.rec y x (Nat.beq j i):α)=if j ==i then x else y:=by
 by_cases h:j=i
 ·subst h;simp
 ·have h':Nat.beq j i=false:=by
   cases hb:Nat.beq j i with
   | false=>rfl
   | true=>exact absurd (Nat.eq_of_beq_eq_true hb) h
  rw [h']
  simp [h]
theorem bY (i:Nat):aJ [] i=.undef:=rfl
theorem bC (j:Nat) (v:AV) (r:List (Nat × AV)) (i:Nat):aJ ((j,v) ::r) i=if j ==i then v else aJ r i:=ji _ _
theorem qe (i:Nat) (v:AV):fk [] i v=[(i,v)]:=rfl
theorem o9 (j:Nat) (u:AV) (r:List (Nat × AV)) (i:Nat) (v:AV):fk ((j,u) ::r) i v=if j ==i then (i,v) ::r else (j,u) ::fk r i v:=ji _ _
theorem ay (i:Nat):ah [] i=none:=rfl
theorem aw (j:Nat) (v:SObj) (r:List (Nat × SObj)) (i:Nat):ah ((j,v) ::r) i=if j ==i then some v else ah r i:=ji _ _
theorem jj (i:Nat) (v:SObj):l6 [] i v=[(i,v)]:=rfl
theorem iw (j:Nat) (u:SObj) (r:List (Nat × SObj)) (i:Nat) (v:SObj):l6 ((j,u) ::r) i v=if j ==i then (i,v) ::r else (j,u) ::l6 r i v:=ji _ _
inductive TI where
 | int (k:IntKind) | bool | str | slice (e:Nat) | ptr (e:Nat) | strct (e:Bool) (fs:List (Nat × Nat)) | map (k e:Nat) | iface | arr (e n:Nat) | other
structure TR where
 ti:TI
 size:Nat
 bytes:Nat
 zero:List AV
 ty:Option Ty
structure Ans where
 ob:Option Prop
 pan:Option (Bool × AV × List (Nat × SObj))
 val:AV
 upd:List (Nat × SObj)
def Ans.ret (v:AV):Ans:=⟨none,none,v,[]⟩
structure Cfg where
 tbl:List (Nat × TR)
 spec:Nat→List AV→List (Nat × SObj)→Option Ans
 keeps:Nat→Bool
 lends:Nat→List (Option Nat)
 pend:Nat→Bool:=fun _=>false
 rows:Nat→Bool:=fun _=>false
 same:Nat→Bool:=fun _=>false
def aq (l:List (Nat × TR)) (t:Nat):Option TR:=List.rec none (fun p _ ih=>Bool.rec ih (some p.2) (Nat.beq p.1 t)) l
theorem oa (t:Nat):aq [] t=none:=rfl
theorem lO (j:Nat) (r:TR) (l:List (Nat × TR)) (t:Nat):aq ((j,r) ::l) t=if j ==t then some r else aq l t:=ji _ _
def TR.isAgg (r:TR):Bool:=
 match r.ti with
 | .strct _ _=>true
 | .arr _ _=>true
 | _=>false
structure DP where
 p:Prop
 b:Bool
 h:b=true→p
abbrev dp (p:Prop) [h:Decidable p]:DP:=⟨p,decide p,fun e=>Xo e⟩
abbrev tw (p:Prop):DP:=⟨p,false,fun h=>by cases h⟩
structure Eff where
 ob:Option DP
 val:AV
 upd:List (Nat × SObj)
def Eff.pure (v:AV):Eff:=⟨none,v,[]⟩
def Eff.asks (e:Eff):Prop:=match e.ob with | none=>True | some d=>d.p
def inR (k:IntKind) (n:Int):Prop:=k.min<=n/\n<=k.max
instance (k:IntKind) (n:Int):Decidable (inR k n):=inferInstanceAs (Decidable (k.min<=n/\n<=k.max))
def xu:IntKind→Nat
 | .i8=>127 | .i16=>32767 | .i32=>2147483647 | .i64=>9223372036854775807
 | .u8=>255 | .u16=>65535 | .u32=>4294967295 | .u64=>18446744073709551615
def tx:IntKind→Bool
 | .i8 | .i16 | .i32 | .i64=>true
 | _=>false
def okC (k:IntKind):Int→Bool
 | .ofNat m=>Nat.ble m (xu k)
 | .negSucc m=>if tx k then Nat.ble m (xu k) else false
def du {α:Type}:List α→Nat→Bool
 | [],0=>true
 | _ ::r,n+1=>du r n
 | _,_=>false
def lP {α:Type}:List α→Nat→Bool
 | [],_=>true
 | _ ::r,n+1=>lP r n
 | _ ::_,0=>false
def nth {α:Type}:List α→Nat→Option α
 | [],_=>none
 | a ::_,0=>some a
 | _ ::r,n+1=>nth r n
def kG:List AV→Nat→Option (List AV)
 | _,0=>some []
 | a ::r,n+1=>(match kG r n with | some l=>some (a ::l) | none=>none)
 | [],_+1=>none
def iM:List AV→Nat→Option (List AV)
 | l,0=>some l
 | _ ::r,n+1=>iM r n
 | [],_+1=>none
def bc:Value→AV
 | .int k n=>if okC k n then .int k n else .undef
 | .bool b=>.bool b
 | .string s=>if lP s.data.toList 100000 then .str s.data.toList else .undef
 | .slice none 0 0=>.nils
 | .pointer none=>.nilp
 | .nilIface=>.nilif
 | .map none=>.nilm
 | _=>.undef
def jk:Value→AV
 | .agg cs=>.agg (cs.toList.map bc)
 | v=>bc v
def opd (T:Nat→AV):Operand→AV
 | .tmp t=>T t
 | .const v=>jk v
 | .func f=>.fn f []
 | .global _=>.undef
def oX (op:BinOp) (k:IntKind) (a b:Int):Option Eff:=
 match op with
 | .add=>some ⟨some (dp (inR k (a+b))),.int k (a+b),[]⟩
 | .sub=>some ⟨some (dp (inR k (a - b))),.int k (a - b),[]⟩
 | .mul=>some ⟨some (dp (inR k (a *b))),.int k (a *b),[]⟩
 | .quo=>some ⟨some (dp (b≠0/\inR k (a.tdiv b))),.int k (a.tdiv b),[]⟩
 | .rem=>some ⟨some (dp (b≠0/\inR k (a.tmod b))),.int k (a.tmod b),[]⟩
 | .eql=>some (.pure (.bool (decide (a=b))))
 | .neq=>some (.pure (.bool (!decide (a=b))))
 | .lss=>some (.pure (.bool (decide (a < b))))
 | .leq=>some (.pure (.bool (decide (a<=b))))
 | .gtr=>some (.pure (.bool (decide (b < a))))
 | .geq=>some (.pure (.bool (decide (b<=a))))
 | .and=>some (.pure (.int k (k.wrap ((BitVec.ofInt k.bits a &&& BitVec.ofInt k.bits b).toNat:Int))))
 | .or=>some (.pure (.int k (k.wrap ((BitVec.ofInt k.bits a ||| BitVec.ofInt k.bits b).toNat:Int))))
 | .xor=>some (.pure (.int k (k.wrap ((BitVec.ofInt k.bits a ^^^ BitVec.ofInt k.bits b).toNat:Int))))
 | _=>none
def xw:BinOp→Bool
 | .shl | .shr=>true
 | _=>false
def rO (op:BinOp) (k:IntKind) (a b:Int):Option Eff:=
 match op with
 | .shl=>some ⟨some (dp (0<=b)),.int k (k.wrap (a *2 ^ (min b.toNat k.bits))),[]⟩
 | .shr=>some ⟨some (dp (0<=b)),.int k (a.fdiv (2 ^ (min b.toNat k.bits))),[]⟩
 | _=>none
def oY (op:BinOp) (k:IntKind) (a b:Int):Option Eff:=
 match op with
 | .add=>some (.pure (.int k (k.wrap (a+b))))
 | .sub=>some (.pure (.int k (k.wrap (a - b))))
 | .mul=>some (.pure (.int k (k.wrap (a *b))))
 | _=>oX op k a b
def rP (op:BinOp) (a b:Str):Option Eff:=
 match op with
 | .add=>some ⟨some (dp (a.length+b.length<=9223372036854775807)),.str (a++b),[]⟩
 | .eql=>some (.pure (.bool (decide (a=b))))
 | .neq=>some (.pure (.bool (!decide (a=b))))
 | .lss=>some (.pure (.bool (Op.bytesLess a b)))
 | .leq=>some (.pure (.bool (Op.bytesLess a b || decide (a=b))))
 | .gtr=>some (.pure (.bool (!(Op.bytesLess a b || decide (a=b)))))
 | .geq=>some (.pure (.bool (!Op.bytesLess a b)))
 | _=>none
def oZ (op:BinOp) (a b:Bool):Option Eff:=
 match op with
 | .eql=>some (.pure (.bool (a ==b)))
 | .neq=>some (.pure (.bool (!(a ==b))))
 | _=>none
def sub (cs:List AV) (off n:Nat):Option (List AV):=
 match iM cs off with
 | some cs=>kG cs n
 | none=>none
def bZ (r:TR) (cs:List AV):Option AV:=
 if r.isAgg then some (.agg cs) else (match cs with | [c]=>some c | _=>none)
def gM:List AV→List AV→Option (List AV)
 | cs,[]=>some cs
 | _ ::cs,v ::vs=>(match gM cs vs with | some l=>some (v ::l) | none=>none)
 | [],_ ::_=>none
def splice:List AV→Nat→List AV→Option (List AV)
 | cs,0,vs=>gM cs vs
 | c ::cs,n+1,vs=>(match splice cs n vs with | some l=>some (c ::l) | none=>none)
 | [],_+1,_=>none
def fP:AV→Bool
 | .undef | .agg _ | .tup _ | .st _ _ | .row _ _=>false
 | _=>true
def gN (r:TR) (c:AV) (off:Nat):Option AV:=
 match c,off,r.ty with
 | .st n x,0,some (.st m)=>
  if n=m then some (.st n x) else (match sub (a8 (.st n x)) 0 r.size with | some cs=>bZ r cs | none=>none)
 | .st n x,o+1,some (.st m)=>
  (match gI n (o+1) x with
  | some (.st m' y)=>if m'=m then some (.st m' y) else none
  | _=>(match sub (a8 (.st n x)) (o+1) r.size with | some cs=>bZ r cs | none=>none))
 | c,off,_=>(match sub (a8 c) off r.size with | some cs=>bZ r cs | none=>none)
def lQ (r:TR) (c:AV) (off:Nat) (v:AV):Option AV:=
 if (a8 v).all fP && du (a8 v) r.size then
  (match off with
  | 0=>if du (a8 c) r.size then some v else (match splice (a8 c) 0 (a8 v) with | some cs=>some (.agg cs) | none=>none)
  | o+1=>(match splice (a8 c) (o+1) (a8 v) with | some cs=>some (.agg cs) | none=>none))
 else none
def qf (fs:List (Nat × Nat)) (size:Nat→Option Nat) (zero:List AV):List (Nat × AV)→Option (List AV)
 | []=>some zero
 | (i,v) ::r=>
  match nth fs i with
  | some (off,t)=>
   (match size t with
   | some n=>if (a8 v).all fP && du (a8 v) n then (match splice zero off (a8 v) with | some z=>qf fs size z r | none=>none) else none
   | none=>none)
  | none=>none
def lR (τ:Ty) (i:Nat):List (Nat × AV)→Option (List (den τ))
 | []=>some []
 | (j,v) ::r=>
  if j ==i then
   (match arg τ v,lR τ (i+1) r with
    | some x,some l=>some (x ::l)
    | _,_=>none)
  else none
def lp (r:TR) (f:Nat):Option (Nat × Nat):=
 match r.ti with
 | .strct _ fs=>nth fs f
 | _=>none
def bnd (T:Nat→AV):Option Operand→Option (Option Int)
 | none=>some none
 | some x=>match opd T x with
  | .int .i64 n=>some (some n)
  | .int .u64 n=>some (some n)
  | _=>none
def cd (s:Str):List Int:=s.map fun b=>(b.toNat:Int)
def lq (C:Cfg) (t:Nat) (dst:Nat) (x y:AV) (look:Nat→Option SObj):Option Eff:=
 match aq C.tbl t with
 | some ⟨.slice e,_,_,_,_⟩=>
  (match aq C.tbl e with
  | some re=>
   (match x,y with
   | .lst τ xs (some k),.lst σ ys _=>
    (match cM σ τ ys,look k with
    | some [z],some (.tail τ' n)=>
     if τ'=τ/\re.ty=some τ then
      some ⟨some (dp (xs.length=n/\(xs.length+1) *re.bytes<=140737488355328)),.lstp τ xs k,[(k,.tailp τ xs.length z)]⟩
     else none
    | _,_=>none)
   | .nils,.lst σ [z] _=>
    (match look dst with
    | none=>if re.ty=some σ then some ⟨some (dp (1 *re.bytes<=140737488355328)),.lstp σ [] dst,[(dst,.tailp σ 0 z)]⟩ else none
    | _=>none)
   | _,_=>none)
  | none=>none)
 | _=>none
def p7 (C:Cfg) (t:Nat) (dst:Nat) (x y:AV) (look:Nat→Option SObj):Option Eff:=
 match aq C.tbl t with
 | some ⟨.slice e,_,_,_,_⟩=>
  (match aq C.tbl e with
  | some re=>
   (match x,y with
   | .nils,.nils=>some (.pure .nils)
   | .lst τ xs o,.nils=>some (.pure (.lst τ xs o))
   | .lst τ xs (some k),.lst σ ys _=>
    (match cM σ τ ys,look k with
    | some ys,some (.tail τ' n)=>
     if τ'=τ/\re.ty=some τ then
      some ⟨some (dp (xs.length=n/\(xs.length+ys.length) *re.bytes<=140737488355328)),.lst τ (xs++ys) (some k),[(k,.tail τ (xs++ys).length)]⟩
     else none
    | _,_=>none)
   | .nils,.lst σ ys _=>
    (match look dst with
    | none=>if re.ty=some σ then some ⟨some (dp (ys.length *re.bytes<=140737488355328)),.lst σ ys (some dst),[(dst,.tail σ ys.length)]⟩ else none
    | _=>none)
   | _,_=>none)
  | none=>none)
 | _=>none
def iX (xs:List Int):Str:=xs.map fun n=>UInt8.ofNat n.toNat
def lr (C:Cfg) (t:Nat) (dst:Nat) (x y:AV) (look:Nat→Option SObj):Option Eff:=
 match aq C.tbl t with
 | some ⟨.slice e,_,_,_,_⟩=>
  (match aq C.tbl e with
  | some re=>
   (match x,y with
   | .glst s n k,.nils=>some (.pure (.glst s n k))
   | .glst s n k,.lst σ ys _=>
    (match look k with
    | some (.grow τ s' xs)=>
     (match cM σ τ ys with
     | some ys=>if re.ty=some τ then some ⟨some (dp ((s=s'/\n=xs.length)/\(xs.length+ys.length) *re.bytes<=140737488355328)),.glst (s'+ys.length) (xs++ys).length k,[(k,.grow τ (s'+ys.length) (xs++ys))]⟩ else none
     | none=>none)
    | _=>none)
   | .glst s n k,.glst s2 n2 k2=>
    (match look k,look k2 with
    | some (.grow τ s' xs),some (.grow σ s2' ys)=>
     (match cM σ τ ys with
     | some ys=>if re.ty=some τ then some ⟨some (dp ((s=s'/\n=xs.length)/\(s2=s2'/\n2=ys.length)/\(xs.length+ys.length) *re.bytes<=140737488355328)),.glst (s'+ys.length) (xs++ys).length k,[(k,.grow τ (s'+ys.length) (xs++ys))]⟩ else none
     | none=>none)
    | _,_=>none)
   | .nils,.lst σ ys _=>
    (match look dst with
    | none=>if re.ty=some σ then some ⟨some (dp (ys.length *re.bytes<=140737488355328)),.glst ys.length ys.length dst,[(dst,.grow σ ys.length ys)]⟩ else none
    | _=>none)
   | _,_=>none)
  | none=>none)
 | _=>none
def vF (C:Cfg) (e:Nat) (t n i:Nat) (look:Nat→Option SObj):Option Eff:=
 match aq C.tbl e,look i with
 | some ⟨.int .u8,_,_,_,some (.int .u8)⟩,some (.grow (.int .u8) t' xs)=>some ⟨some (dp (t=t'/\n=xs.length)),.str (iX xs),[]⟩
 | _,_=>none
def yD:AV→Bool
 | .glst _ _ _=>true
 | _=>false
def yn (r:TR) (τ:Ty) (s':Nat) (xs:List (den τ)) (s i w off:Nat):Option Eff:=
 if w=a7 τ then
  (match gN r (inj τ (xs.getD i (dfl τ))) off with | some v=>some ⟨some (dp (s=s'/\i < xs.length)),v,[]⟩ | none=>none)
 else none
def rQ (r:TR) (k:Nat) (τ:Ty) (s':Nat) (xs:List (den τ)) (s i w off:Nat) (v:AV):Option Eff:=
 if w=a7 τ then
  (match lQ r (inj τ (xs.getD i (dfl τ))) off v with
  | some c=>(match arg τ c with | some x=>some ⟨some (dp (s=s'/\i < xs.length)),.undef,[(k,.grow τ s' (xs.set i x))]⟩ | none=>none)
  | none=>none)
 else none
def rR (C:Cfg) (t:Nat) (s n k:Nat) (lo hi:Option (Option Int)) (look:Nat→Option SObj):Option Eff:=
 match aq C.tbl t,lo,hi,look k with
 | some ⟨.slice e,_,_,_,_⟩,some none,some (some h),some (.grow τ s' xs)=>
  (match aq C.tbl e with
  | some _=>some ⟨some (dp ((s=s'/\n=xs.length)/\0<=h/\h<=xs.length)),.glst (s'+1) (xs.take h.toNat).length k,[(k,.grow τ (s'+1) (xs.take h.toNat))]⟩
  | none=>none)
 | _,_,_,_=>none
def gf (xs:List Int):Str:=xs.map fun n=>UInt8.ofNat n.toNat
def lv (C:Cfg) (t t':Nat) (x:AV) (s:Str) (look:Nat→Option SObj):Option Eff:=
 match aq C.tbl t,aq C.tbl t' with
 | some ⟨.slice e,_,_,_,_⟩,some ⟨.str,_,_,_,_⟩=>
  (match aq C.tbl e with
  | some ⟨.int .u8,_,bytes,_,some (.int .u8)⟩=>
   (match x with
   | .lst (.int .u8) xs (some k)=>
    (match look k with
    | some (.tail (.int .u8) n)=>
     some ⟨some (dp (xs.length=n/\(xs.length+s.length) *bytes<=140737488355328)),.lst (.int .u8) (xs++cd s) (some k),[(k,.tail (.int .u8) (xs++cd s).length)]⟩
    | _=>none)
   | _=>none)
  | _=>none)
 | _,_=>none
def yo (C:Cfg) (s d:Nat) (x:AV):Option Eff:=
 match aq C.tbl s,aq C.tbl d,x with
 | some ⟨.slice e,_,_,_,_⟩,some ⟨.str,_,_,_,_⟩,.lst (.int .u8) xs _=>
  (match aq C.tbl e with
  | some ⟨.int .u8,_,_,_,some (.int .u8)⟩=>some (.pure (.str (gf xs)))
  | _=>none)
 | some ⟨.str,_,_,_,_⟩,some ⟨.slice e,_,_,_,_⟩,.str s=>
  (match aq C.tbl e with
  | some ⟨.int .u8,_,_,_,some (.int .u8)⟩=>some (.pure (.lst (.int .u8) (cd s) none))
  | _=>none)
 | _,_,_=>none
def ids:AV→List Nat
 | .ptr i _=>[i]
 | .lst _ _ (some i)=>[i]
 | .agg cs=>idsL cs
 | .tup cs=>idsL cs
 | .fn _ cs=>idsL cs
 | .cptr c=>ids c
 | .arr i _ _=>[i]
 | .aptr i _ _ _=>[i]
 | .map i=>[i]
 | .bptr i=>[i]
 | .iface _ a=>ids a
 | .lstp _ _ k=>[k]
 | .tptr _ _ k=>[k]
 | .glst _ _ k=>[k]
 | .gptr k _ _ _ _=>[k]
 | _=>[]
where idsL:List AV→List Nat
 | []=>[]
 | a ::r=>ids a++idsL r
def rS:SObj→List Nat
 | .box c=>ids c
 | _=>[]
mutual
def mapV (fp:Nat→Nat→Option (Nat × Nat)) (fi ft:Nat→Option Nat):AV→Option AV
 | .ptr i o=>(match fp i o with | some (j,p)=>some (.ptr j p) | none=>none)
 | .lst τ xs o=>(match o with | some k=>some (.lst τ xs (ft k)) | none=>some (.lst τ xs none))
 | .cptr c=>(match mapV fp fi ft c with | some c=>some (.cptr c) | none=>none)
 | .agg cs=>(match mapVs fp fi ft cs with | some cs=>some (.agg cs) | none=>none)
 | .tup cs=>(match mapVs fp fi ft cs with | some cs=>some (.tup cs) | none=>none)
 | .fn f cs=>(match mapVs fp fi ft cs with | some cs=>some (.fn f cs) | none=>none)
 | .arr i n w=>(match fi i with | some j=>some (.arr j n w) | none=>none)
 | .aptr i n w o=>(match fi i with | some j=>some (.aptr j n w o) | none=>none)
 | .map i=>(match fi i with | some j=>some (.map j) | none=>none)
 | .bptr i=>(match fi i with | some j=>some (.bptr j) | none=>none)
 | .iface t a=>(match mapV fp fi ft a with | some a=>some (.iface t a) | none=>none)
 | .lstp _ _ _=>none
 | .tptr _ _ _=>none
 | .glst s n k=>(match fi k with | some j=>some (.glst s n j) | none=>none)
 | .gptr k s i w o=>(match fi k with | some j=>some (.gptr j s i w o) | none=>none)
 | a=>some a
def mapVs (fp:Nat→Nat→Option (Nat × Nat)) (fi ft:Nat→Option Nat):List AV→Option (List AV)
 | []=>some []
 | a ::r=>(match mapV fp fi ft a,mapVs fp fi ft r with | some a,some r=>some (a ::r) | _,_=>none)
end
abbrev bV:=Nat × Option (Nat × Nat)
def fQ (look:Nat→Option SObj):Nat→List Nat→List Nat→List Nat
 | 0,_,acc=>acc
 | _+1,[],acc=>acc
 | n+1,i ::r,acc=>
  if acc.contains i then fQ look n r acc
  else fQ look n (r++(match look i with | some o=>rS o | none=>[])) (acc++[i])
def idx:List bV→Nat→Nat→Option (Nat × Option (Nat × Nat))
 | [],_,_=>none
 | (j,r) ::l,i,k=>if j ==i then some (k,r) else idx l i (k+1)
def b9 (i:Nat):Bool:=Nat.ble 900 i && Nat.blt i 1000
def toP (L:List bV) (i o:Nat):Option (Nat × Nat):=
 match idx L i 900 with
 | some (k,none)=>some (k,o)
 | some (k,some (off,len))=>if Nat.ble off o && Nat.blt o (off+len) then some (k,o - off) else none
 | none=>none
def toI (L:List bV) (i:Nat):Option Nat:=
 match idx L i 900 with
 | some (k,none)=>some k
 | _=>none
def nid (d k:Nat):Nat:=(k+1) *1000+d
def aN (L:List bV) (k:Nat):Option bV:=if Nat.ble 900 k then nth L (k - 900) else none
def lS (L:List bV) (d k o:Nat):Option (Nat × Nat):=
 match aN L k with
 | some (i,none)=>some (i,o)
 | some (i,some (off,_))=>some (i,off+o)
 | none=>some (nid d k,o)
def fr (L:List bV) (d k:Nat):Option Nat:=
 match aN L k with
 | some (i,none)=>some i
 | some (_,some _)=>none
 | none=>some (nid d k)
def vG (c:AV) (off len:Nat):Option AV:=match sub (a8 c) off len with | some cs=>some (.agg cs) | none=>none
def ui (c:AV):Option (Nat × Nat)→Option AV
 | none=>some c
 | some (off,len)=>
  match c with
  | .st n x=>
   (match gI n off x with
   | some (.st m y)=>if a7 (.st m)=len then some (.st m y) else vG (.st n x) off len
   | _=>vG (.st n x) off len)
  | c=>vG c off len
def xx (c:AV) (off:Nat) (d:AV):Option AV:=match splice (a8 c) off (a8 d) with | some cs=>some (.agg cs) | none=>none
def xy (c:AV) (r:Option (Nat × Nat)) (d:AV):Option AV:=
 match r with
 | none=>some d
 | some (off,len)=>
  if du (a8 d) len then
   (match c with
   | .st n x=>(match vE n off x d with | some a=>some a | none=>xx (.st n x) off d)
   | c=>xx c off d)
  else none
def cX (L:List bV) (r:Option (Nat × Nat)):SObj→Option SObj
 | .box c=>
  (match ui c r with
  | some c=>(match mapV (toP L) (toI L) (toI L) c with | some c=>some (.box c) | none=>none)
  | none=>none)
 | .tailp _ _ _=>none
 | o=>(match r with | none=>some o | some _=>none)
def l7 (look:Nat→Option SObj) (L:List bV):List bV→Nat→Option (List (Nat × SObj))
 | [],_=>some []
 | (i,r) ::l,k=>
  match look i with
  | some o=>(match cX L r o,l7 look L l (k+1) with | some o,some l=>some ((k,o) ::l) | _,_=>none)
  | none=>none
def eo (L:List bV) (d:Nat) (r:Option (Nat × Nat)) (old:Option SObj):SObj→Option SObj
 | .box c=>
  (match mapV (lS L d) (fr L d) (fr L d) c with
  | some c=>(match old with | some (.box b)=>(match xy b r c with | some c=>some (.box c) | none=>none) | none=>some (.box c) | _=>none)
  | none=>none)
 | .tailp _ _ _=>none
 | o=>(match r with | none=>some o | some _=>none)
def gO (look:Nat→Option SObj) (L:List bV) (d:Nat):List (Nat × SObj)→Option (List (Nat × SObj))
 | []=>some []
 | (k,o) ::u=>
  match aN L k with
  | some (i,r)=>
   (match look i with
   | some old=>(match eo L d r (some old) o,gO look L d u with | some o,some u=>some ((i,o) ::u) | _,_=>none)
   | none=>none)
  | none=>
   (match look (nid d k) with
   | none=>(match eo L d none none o,gO look L d u with | some o,some u=>some ((nid d k,o) ::u) | _,_=>none)
   | some _=>none)
def dw (L:List bV) (d:Nat) (u:List (Nat × SObj)):List Nat:=
 u.filterMap fun x=>match aN L x.1 with | some _=>none | none=>some (nid d x.1)
def eX (S u:List (Nat × SObj)):List (Nat × SObj):=u++S.filter fun x=>!(u.map (·.1)).contains x.1
def p8 (i:Nat):List AV→List (Option Nat)→Option (Nat × Nat)
 | .ptr j o ::r,n ::ns=>if j ==i then (match n with | some n=>some (o,n) | none=>none) else p8 i r ns
 | _ ::r,_ ::ns=>p8 i r ns
 | _,_=>none
def tz (look:Nat→Option SObj) (i:Nat):Bool:=match look i with | some (.box _)=>true | _=>false
structure CallR where
 foot:List Nat
 eff:Eff
 pan:Option (Bool × AV × List (Nat × SObj))
def aO:List Nat→Bool
 | []=>true
 | a ::r=>!r.contains a && aO r
def jl (look:Nat→Option SObj) (args:List AV) (ns:List (Option Nat)) (i:Nat):Option SObj:=
 match p8 i args ns with
 | some (o,n)=>
  (match Nat.ble 1000 n,look i with
  | true,some (.box c)=>(match ui c (some (o,n - 1000)) with | some c=>some (.box c) | none=>none)
  | _,x=>x)
 | none=>look i
def zj:Option (Nat × Nat)→Option (Nat × Nat)
 | some (o,n)=>some (o,match Nat.ble 1000 n with | true=>n - 1000 | false=>n)
 | none=>none
def dL (C:Cfg) (f:Nat) (args:List AV) (look:Nat→Option SObj):List bV:=
 (fQ (jl look args (C.lends f)) 64 (ids.idsL args) []).map fun i=>(i,if tz look i then zj (p8 i args (C.lends f)) else none)
def tA (look:Nat→Option SObj) (L:List bV) (S:List (Nat × SObj)) (d:Nat) (A:Ans):Option CallR:=
 match mapV (lS L d) (fr L d) (fr L d) A.val,gO look L d (eX S A.upd),aO (A.upd.map (·.1)) with
 | some v,some u,true=>
  (match A.pan with
  | none=>some ⟨dw L d A.upd,⟨A.ob.map tw,v,u⟩,none⟩
  | some (b,pv,pu)=>
   (match mapV (lS L d) (fr L d) (fr L d) pv,gO look L d (eX S pu),aO (pu.map (·.1)) with
   | some pv,some pu',true=>some ⟨dw L d A.upd++dw L d pu,⟨A.ob.map tw,v,u⟩,some (b,pv,pu')⟩
   | _,_,_=>none))
 | _,_,_=>none
def gg (keeps:Bool) (args:List AV):Option (List AV):=
 match keeps with
 | true=>some args
 | false=>mapVs (fun i o=>some (i,o)) some (fun _=>none) args
def vH (C:Cfg) (d:Nat) (f:Nat) (args:List AV) (look:Nat→Option SObj) (L:List bV):Option CallR:=
 match aO (L.map (·.1)) && Nat.blt d 1000 && Nat.ble L.length 100 with
 | true=>
  (match mapVs (toP L) (toI L) (toI L) args,l7 look L L 900 with
  | some as,some S=>(match C.spec f as S with | some A=>tA look L S d A | none=>none)
  | _,_=>none)
 | false=>none
def lT (C:Cfg) (d:Nat) (f:Nat) (args:List AV) (look:Nat→Option SObj):Option CallR:=
 match gg (C.keeps f) args with
 | none=>none
 | some args=>vH C d f args look (dL C f args look)
def bL (T:Nat→AV) (c:Call):Option (Nat × List AV):=
 match c.callee with
 | .value (.func f)=>some (f,c.args.toList.map (opd T))
 | .value (.tmp t)=>(match T t with | .fn f caps=>some (f,c.args.toList.map (opd T)++caps) | _=>none)
 | _=>none
def dM (C:Cfg) (o:Oper) (T:Nat→AV) (look:Nat→Option SObj):Option CallR:=
 match o.op,o.dst with
 | .call c,some d=>(match bL T c with | some (f,args)=>lT C d f args look | none=>none)
 | _,_=>none
def eqD:(τ:Ty)→den τ→den τ→Bool
 | .int _,x,y=>decide ((x:Int)=y)
 | .bool,x,y=>decide ((x:Bool)=y)
 | .str,x,y=>decide ((x:Str)=y)
 | .st .token,x,y=>decide ((x:Tokn).kind=(y:Tokn).kind) && decide ((x:Tokn).text=(y:Tokn).text) && decide ((x:Tokn).pos=(y:Tokn).pos)
 | _,_,_=>false
theorem yE {τ:Ty} {x y:den τ} (h:eqD τ x y=true):x=y:=by
 unfold eqD at h
 split at h
 ·exact Xo h
 ·exact Xo h
 ·exact Xo h
 ·rename_i x y
  simp only [Bool.and_eq_true,decide_eq_true_eq] at h
  obtain ⟨⟨h1,h2⟩,h3⟩:=h
  cases x;cases y
  simp only at h1 h2 h3
  rw [h1,h2,h3]
 ·cases h
def xz (τ:Ty):List (den τ)→List (den τ)→Bool
 | [],[]=>true
 | x ::r,y ::s=>eqD τ x y && xz τ r s
 | _,_=>false
theorem tB {τ:Ty}:∀{l m:List (den τ)},xz τ l m=true→l=m
 | [],[],_=>rfl
 | x ::r,y ::s,h=>by
  simp only [xz,Bool.and_eq_true] at h
  rw [yE h.1,tB h.2]
 | [],_ ::_,h=>by cases h
 | _ ::_,[],h=>by cases h
def eqX (τ σ:Ty) (xs:List (den τ)) (ys:List (den σ)):Bool:=match cM τ σ xs with | some zs=>xz σ zs ys | none=>false
theorem uj {τ σ:Ty} {xs:List (den τ)} {ys:List (den σ)} (h:cM τ σ xs=some ys):∃e:τ=σ,e ▸ xs=ys:=by
 unfold cM at h
 split at h
 ·rename_i e;exact ⟨e,Option.some.inj h⟩
 ·cases h
theorem vI {τ σ:Ty} {xs:List (den τ)} {ys:List (den σ)} (h:eqX τ σ xs ys=true):∃e:τ=σ,e ▸ xs=ys:=by
 unfold eqX at h
 split at h
 ·rename_i zs hz
  obtain ⟨e,he⟩:=uj hz
  exact ⟨e,he.trans (tB h)⟩
 ·cases h
mutual
def eqV:AV→AV→Bool
 | .undef,.undef=>true
 | .int k n,.int j m=>decide (k=j) && decide (n=m)
 | .bool a,.bool b=>decide (a=b)
 | .str s,.str t=>decide (s=t)
 | .lst τ xs o,.lst σ ys p=>decide (o=p) && eqX τ σ xs ys
 | .nils,.nils=>true
 | .nilp,.nilp=>true
 | .nilif,.nilif=>true
 | .nilm,.nilm=>true
 | .ptr i o,.ptr j p=>Nat.beq i j && Nat.beq o p
 | .row τ xs,.row σ ys=>eqX τ σ xs ys
 | .map i,.map j=>Nat.beq i j
 | .bptr i,.bptr j=>Nat.beq i j
 | .cptr c,.cptr d=>eqV c d
 | .agg cs,.agg ds=>eqVs cs ds
 | .fn f cs,.fn g ds=>Nat.beq f g && eqVs cs ds
 | _,_=>false
def eqVs:List AV→List AV→Bool
 | [],[]=>true
 | a ::r,b ::s=>eqV a b && eqVs r s
 | _,_=>false
end
mutual
theorem eqV_ok:∀(a b:AV),eqV a b=true→a=b:=by
 intro a b h
 unfold eqV at h
 split at h
 ·rfl
 ·simp only [Bool.and_eq_true,decide_eq_true_eq] at h;rw [h.1,h.2]
 ·rw [Xo h]
 ·rw [Xo h]
 ·simp only [Bool.and_eq_true,decide_eq_true_eq] at h
  obtain ⟨e,he⟩:=vI h.2
  subst e
  rw [h.1,←he]
 ·rfl
 ·rfl
 ·rfl
 ·rfl
 ·simp only [Bool.and_eq_true] at h;rw [Nat.eq_of_beq_eq_true h.1,Nat.eq_of_beq_eq_true h.2]
 ·obtain ⟨e,he⟩:=vI h
  subst e
  rw [←he]
 ·rw [Nat.eq_of_beq_eq_true h]
 ·rw [Nat.eq_of_beq_eq_true h]
 ·rename_i c d;rw [eqV_ok c d h]
 ·rename_i cs ds;rw [eqVs_ok cs ds h]
 ·rename_i f cs g ds
  simp only [Bool.and_eq_true] at h
  rw [Nat.eq_of_beq_eq_true h.1,eqVs_ok cs ds h.2]
 ·cases h
theorem eqVs_ok:∀(l m:List AV),eqVs l m=true→l=m
 | [],[],_=>rfl
 | a ::r,b ::s,h=>by
  simp only [eqVs,Bool.and_eq_true] at h
  rw [eqV_ok a b h.1,eqVs_ok r s h.2]
 | [],_ ::_,h=>by cases h
 | _ ::_,[],h=>by cases h
end
def eqO:SObj→SObj→Bool
 | .box c,.box d=>eqV c d
 | .tail τ n,.tail σ m=>decide (τ=σ) && Nat.beq n m
 | .bld t u l,.bld t' u' l'=>Nat.beq t t' && Nat.beq u u' && decide (l=l')
 | _,_=>false
theorem vJ {a b:SObj} (h:eqO a b=true):a=b:=by
 unfold eqO at h
 split at h
 ·rw [eqV_ok _ _ h]
 ·simp only [Bool.and_eq_true,decide_eq_true_eq] at h;rw [h.1,Nat.eq_of_beq_eq_true h.2]
 ·simp only [Bool.and_eq_true,decide_eq_true_eq] at h;rw [Nat.eq_of_beq_eq_true h.1.1,Nat.eq_of_beq_eq_true h.1.2,h.2]
 ·cases h
def dU (look:Nat→Option SObj):List (Nat × SObj)→Prop
 | []=>True
 | (i,o) ::r=>(match look i with | some o'=>o'=o/\dU look r | none=>dU look r)
def ep (look:Nat→Option SObj):List (Nat × SObj)→Bool
 | []=>true
 | (i,o) ::r=>(match look i with | some o'=>eqO o' o && ep look r | none=>ep look r)
theorem gP {look:Nat→Option SObj}:∀{l:List (Nat × SObj)},ep look l=true→dU look l
 | [],_=>trivial
 | (i,o) ::r,h=>by
  unfold ep at h
  unfold dU
  split at h
  ·rw [Bool.and_eq_true] at h
   exact ⟨vJ h.1,gP h.2⟩
  ·exact gP h
def okO:Option DP→Bool
 | none=>true
 | some d=>d.b
theorem vK {e:Eff} (h:okO e.ob=true):e.asks:=by
 unfold Eff.asks
 split
 ·trivial
 ·rename_i d hd
  rw [hd] at h
  exact d.h h
def qg (look:Nat→Option SObj):List (Nat × SObj)→List (Nat × SObj)
 | []=>[]
 | (i,o) ::r=>(match look i with | some _=>qg look r | none=>(i,o) ::qg look r)
def dx (b:Bool) (look:Nat→Option SObj) (e:Eff):Eff:=
 match b with
 | false=>e
 | true=>⟨some ⟨e.asks/\dU look e.upd,okO e.ob && ep look e.upd,fun h=>by
   rw [Bool.and_eq_true] at h
   exact ⟨vK h.1,gP h.2⟩⟩,e.val,qg look e.upd⟩
def vL (b:Bool) (u:List (Nat × SObj)):List Nat:=match b with | true=>u.map (·.1) | false=>[]
def gQ (C:Cfg) (o:Oper):Bool:=match o.dst with | some d=>C.same d | none=>false
def ar (C:Cfg) (o:Oper) (T:Nat→AV) (look:Nat→Option SObj):List Nat:=
 match o.op with
 | .alloc _ | .box .. | .buildSlice .. | .makeSlice .. | .makeMap ..=>o.dst.toList
 | .load _ a | .store _ a _=>(match opd T a with | .ptr id _=>[id] | .aptr id _ _ _=>[id] | .tptr _ _ k=>[k] | .gptr k _ _ _ _=>[k] | _=>[])
 | .slice _ x _ _ _=>(match opd T x with | .glst _ _ k=>[k] | _=>[])
 | .convert _ _ x=>(match opd T x with | .glst _ _ k=>[k] | _=>[])
 | .lookup _ x _ _=>(match opd T x with | .map id=>[id] | _=>[])
 | .mapUpdate _ x _ _ | .insert _ x _ _=>(match opd T x with | .map id=>[id] | _=>[])
 | .mapEntry _ x _ | .entryStore _ x _ _=>(match opd T x with | .map id=>[id] | _=>[])
 | .call {callee:=.builtin .append,args,..}=>
  (match args.toList with
  | [x,y]=>(match opd T x with | .lst _ _ (some k)=>[k] | .nils=>o.dst.toList | .glst _ _ k=>[k] | _=>[])++(match opd T y with | .glst _ _ k=>[k] | _=>[])
  | _=>[])
 | .call {callee:=.builtin .len,args,..}=>
  (match args.toList with
  | [x]=>(match opd T x with | .map id=>[id] | _=>[])
  | _=>[])
 | .call c=>
  (match bL T c with
  | some (f,args)=>
   (match gg (C.keeps f) args with
   | some args=>(dL C f args look).map (·.1)++(match dM C o T look with | some r=>r.foot++vL (gQ C o) r.eff.upd | none=>[])
   | none=>[])
  | none=>[])
 | _=>[]
def bd (C:Cfg) (o:Oper) (T:Nat→AV) (look:Nat→Option SObj):Option (Bool × AV × List (Nat × SObj)):=
 match o.op with
 | .panic x=>some (true,opd T x,[])
 | .call _=>(match dM C o T look with | some r=>r.pan | none=>none)
 | _=>none
def cu {K V:Type} [DecidableEq K]:List (K × V)→K→Option V
 | [],_=>none
 | (a,v) ::r,k=>if k=a then some v else cu r k
def fR {K V:Type} [DecidableEq K]:List (K × V)→K→V→List (K × V)
 | [],k,v=>[(k,v)]
 | (a,u) ::r,k,v=>if k=a then (k,v) ::r else (a,u) ::fR r k v
def dy (κ τ:Ty) (m:List (den κ × den τ)) (k:AV):Option (Option (den τ)):=
 match κ,m,k with
 | .str,m,.str k=>some (cu (K:=Str) m k)
 | .int j,m,.int j' k=>if j=j' then some (cu (K:=Int) m k) else none
 | .st .nm,m,k=>(match arg (.st .nm) k with | some k=>some (cu (K:=Nam) m k) | none=>none)
 | _,_,_=>none
def dN (κ τ:Ty) (m:List (den κ × den τ)) (k:AV) (v:den τ):Option (List (den κ × den τ)):=
 match κ,m,k with
 | .str,m,.str k=>some (fR (K:=Str) m k v)
 | .int j,m,.int j' k=>if j=j' then some (fR (K:=Int) m k v) else none
 | .st .nm,m,k=>(match arg (.st .nm) k with | some k=>some (fR (K:=Nam) m k v) | none=>none)
 | _,_,_=>none
def mix {K V:Type} [DecidableEq K]:List (K × V)→K→Nat
 | [],_=>0
 | (a,_) ::r,k=>if k=a then 0 else mix r k+1
def lU (κ τ:Ty) (m:List (den κ × den τ)) (k:AV):Nat:=
 match κ,m,k with
 | .str,m,.str k=>mix (K:=Str) m k
 | .int _,m,.int _ k=>mix (K:=Int) m k
 | .st .nm,m,k=>(match arg (.st .nm) k with | some k=>mix (K:=Nam) m k | none=>0)
 | _,_,_=>0
def jQ {K V:Type} (m:List (K × V)) (i:Nat) (v:V):List (K × V):=m.modify i fun x=>(x.1,v)
def zk (r:TR) (n:SN):Bool:=
 match r.ty with
 | some (.st m)=>decide (n=m)
 | _=>false
def fS:AV→Option (List AV)
 | .agg cs=>some cs
 | .st n x=>some (cells (.st n) x)
 | _=>none
def lV:TI→AV→AV→Option Bool
 | .int _,.int j a,.int k b=>if j=k then some (decide (a=b)) else none
 | .bool,.bool a,.bool b=>some (a ==b)
 | .str,.str a,.str b=>some (decide (a=b))
 | _,_,_=>none
def rT (C:Cfg):List (Nat × Nat)→List AV→List AV→Option Bool
 | [],_,_=>some true
 | (off,t) ::r,cs,ds=>
  match aq C.tbl t,nth cs off,nth ds off with
  | some rt,some c,some d=>(match lV rt.ti c d,rT C r cs ds with | some b,some b'=>some (b && b') | _,_=>none)
  | _,_,_=>none
def uk (C:Cfg):List (Nat × Nat)→List AV→List AV→Option Bool
 | [],_,_=>some true
 | (off,t) ::r,cs,ds=>
  match aq C.tbl t with
  | some ⟨.strct true gs,n,_,_,_⟩=>
   (match sub cs off n,sub ds off n with
   | some c,some d=>(match rT C gs c d,uk C r cs ds with | some b,some b'=>some (b && b') | _,_=>none)
   | _,_=>none)
  | some rt=>
   (match nth cs off,nth ds off with
   | some c,some d=>(match lV rt.ti c d,uk C r cs ds with | some b,some b'=>some (b && b') | _,_=>none)
   | _,_=>none)
  | none=>none
def rU (C:Cfg) (op:BinOp) (t:Nat) (cs ds:List AV):Option Eff:=
 match aq C.tbl t with
 | some ⟨.strct true fs,_,_,_,_⟩=>
  (match uk C fs cs ds with
  | some b=>(match op with | .eql=>some (.pure (.bool b)) | .neq=>some (.pure (.bool (!b))) | _=>none)
  | none=>none)
 | _=>none
def tC (r:TR) (τ:Ty) (xs:List (den τ)) (i w off:Nat):Option Eff:=
 if w=a7 τ then
  (match gN r (inj τ (xs.getD i (dfl τ))) off with | some v=>some ⟨some (dp (i < xs.length)),v,[]⟩ | none=>none)
 else none
def lW (r:TR) (id:Nat) (τ:Ty) (xs:List (den τ)) (i w off:Nat) (v:AV):Option Eff:=
 if w=a7 τ then
  (match lQ r (inj τ (xs.getD i (dfl τ))) off v with
  | some c=>(match arg τ c with | some x=>some ⟨some (dp (i < xs.length)),.undef,[(id,.box (.row τ (xs.set i x)))]⟩ | none=>none)
  | none=>none)
 else none
def p9 (C:Cfg):List (Nat × Nat)→Bool
 | [(0,a),(1,b)]=>(match aq C.tbl a,aq C.tbl b with | some ⟨.str,_,_,_,_⟩,some ⟨.str,_,_,_,_⟩=>true | _,_=>false)
 | _=>false
def fT (C:Cfg):TI→Ty→Bool
 | .str,.str=>true
 | .int j,.int k=>decide (j=k)
 | .strct true fs,.st .nm=>p9 C fs
 | _,_=>false
def fv (C:Cfg) (t:Nat) (x k:AV) (ok:Bool) (look:Nat→Option SObj):Option Eff:=
 match aq C.tbl t,x with
 | some ⟨.map kt e,_,_,_,_⟩,.map id=>
  (match aq C.tbl kt,aq C.tbl e,look id with
  | some rk,some re,some (.map κ τ m)=>
   (match lN τ re.zero,dy κ τ m k with
   | some z,some g=>
    if fT C rk.ti κ && decide (re.ty=some τ) then some (.pure (match ok with | true=>.tup [inj τ (g.getD z),.bool g.isSome] | false=>inj τ (g.getD z))) else none
   | _,_=>none)
  | _,_,_=>none)
 | some ⟨.map kt e,_,_,_,_⟩,.nilm=>
  (match aq C.tbl kt,aq C.tbl e with
  | some rk,some re=>
   (match rk.ty,re.ty with
   | some κ,some τ=>
    (match lN τ re.zero,dy κ τ [] k with
    | some z,some none=>if fT C rk.ti κ then some (.pure (match ok with | true=>.tup [inj τ z,.bool false] | false=>inj τ z)) else none
    | _,_=>none)
   | _,_=>none)
  | _,_=>none)
 | _,_=>none
def gh (C:Cfg) (t:Nat) (x k v:AV) (look:Nat→Option SObj):Option Eff:=
 match aq C.tbl t,x with
 | some ⟨.map kt _,_,_,_,_⟩,.map id=>
  (match aq C.tbl kt,look id with
  | some rk,some (.map κ τ m)=>
   (match arg τ v with
   | some v=>(match dN κ τ m k v with | some m=>if fT C rk.ti κ then some ⟨none,.undef,[(id,.map κ τ m)]⟩ else none | none=>none)
   | none=>none)
  | _,_=>none)
 | _,_=>none
def lX (C:Cfg) (t:Nat) (x k:AV) (look:Nat→Option SObj):Option Eff:=
 match aq C.tbl t,x with
 | some ⟨.map kt e,_,_,_,_⟩,.map id=>
  (match aq C.tbl kt,aq C.tbl e,look id with
  | some rk,some re,some (.map κ τ m)=>
   (match lN τ re.zero,dy κ τ m k with
   | some z,some g=>
    (match dN κ τ m k (g.getD z) with
    | some m'=>if fT C rk.ti κ && decide (re.ty=some τ) then some ⟨some (dp (m.length<=9223372036854775807)),.tup [inj τ (g.getD z),.int .i64 (lU κ τ m k:Int)],[(id,.map κ τ m')]⟩ else none
    | none=>none)
   | _,_=>none)
  | _,_,_=>none)
 | _,_=>none
def gR (x s v:AV) (look:Nat→Option SObj):Option Eff:=
 match x,s with
 | .map id,.int _ n=>
  (match look id with
  | some (.map κ τ m)=>(match arg τ v with | some u=>some ⟨some (dp (0<=n/\n.toNat < m.length)),.undef,[(id,.map κ τ (jQ m n.toNat u))]⟩ | none=>none)
  | _=>none)
 | _,_=>none
def xA:List AV→Bool
 | []=>true
 | .int .i64 (.ofNat 0) ::r=>xA r
 | _=>false
def tD (r:TR):Option AV:=
 match r.ti with
 | .arr _ n=>if xA r.zero && du r.zero n then some (.row (.int .i64) (List.replicate n (0:Int))) else none
 | _=>if r.isAgg then some (.agg r.zero) else (match r.zero with | [c]=>some c | _=>none)
def yp (tbl:List (Nat × TR)) (e:Nat) (r:TR):Option Nat:=
 match r.ti,r.zero with
 | .strct _ [(_,p),(_,s)],[.nilp,.nils]=>
  (match aq tbl p,aq tbl s with
  | some rp,some rs=>(match rp.ti,rs.ti with | .ptr e',.slice u=>if e'=e then some u else none | _,_=>none)
  | _,_=>none)
 | _,_=>none
def rV (C:Cfg) (t:Nat) (x:AV) (lo hi:Option (Option Int)):Option Eff:=
  match aq C.tbl t,x,lo,hi with
  | some ⟨.str,_,_,_,_⟩,.str s,some l,some h=>
   some ⟨some (dp (0<=l.getD 0/\l.getD 0<=h.getD s.length/\h.getD s.length<=s.length)),.str ((s.take (h.getD s.length).toNat).drop (l.getD 0).toNat),[]⟩
  | some ⟨.slice e,_,_,_,_⟩,.lst τ xs _,some l,some h=>
   (match aq C.tbl e with
   | some re=>
    if re.ty=some τ then
     some ⟨some (dp (0<=l.getD 0/\l.getD 0<=h.getD xs.length/\h.getD xs.length<=xs.length)),.lst τ ((xs.take (h.getD xs.length).toNat).drop (l.getD 0).toNat) none,[]⟩
    else none
   | none=>none)
  | _,_,_,_=>none
def yF (C:Cfg) (t:Nat) (x:AV) (look:Nat→Option SObj):Option Eff:=
   match aq C.tbl t,x with
   | some ⟨.str,_,_,_,_⟩,.str s=>some (.pure (.int .i64 (s.length:Int)))
   | some ⟨.slice _,_,_,_,_⟩,.lst _ xs _=>some (.pure (.int .i64 (xs.length:Int)))
   | some ⟨.slice _,_,_,_,_⟩,.nils=>some (.pure (.int .i64 0))
   | some ⟨.slice _,_,_,_,_⟩,.arr _ n _=>some (.pure (.int .i64 n))
   | some ⟨.slice _,_,_,_,_⟩,.glst _ n _=>some (.pure (.int .i64 n))
   | some ⟨.map _ _,_,_,_,_⟩,.map id=>(match look id with | some (.map _ _ m)=>some ⟨some (dp (m.length<=9223372036854775807)),.int .i64 (m.length:Int),[]⟩ | _=>none)
   | _,_=>none
def boxF (r:TR) (d:Nat) (a:AV) (fast:Bool):Option Eff:=
 match fast with
 | false=>if (a8 a).all fP && du (a8 a) r.size then some ⟨none,.ptr d 0,[(d,.box a)]⟩ else none
 | true=>
  match r.ty with
  | some (.st n)=>(match arg (.st n) a with | some v=>if (a8 a).all fP then some ⟨none,.pt n (some v),[(d,.box (.agg []))]⟩ else none | none=>none)
  | _=>none
def vM (C:Cfg) (o:Oper):Bool:=match o.dst with | some d=>C.rows d | none=>false
def aj (C:Cfg) (o:Oper) (T:Nat→AV) (look:Nat→Option SObj):Option Eff:=
 match o.op with
 | .move x | .assign x=>some (.pure (opd T x))
 | .pick c a b=>(match opd T c with | .bool c=>some (.pure (if c=true then opd T a else opd T b)) | _=>none)
 | .alloc e=>
  (match o.dst,aq C.tbl e with
  | some d,some r=>
   (match yp C.tbl e r with
   | some u=>(match look d with | none=>some ⟨none,.bptr d,[(d,.bld e u [])]⟩ | _=>none)
   | none=>
   (match look d,tD r with
   | none,some c=>some ⟨none,.ptr d 0,[(d,.box c)]⟩
   | _,_=>none))
  | _,_=>none)
 | .box e x=>
  (match o.dst,aq C.tbl e with
  | some d,some r=>
   (match look d with
   | none=>boxF r d (opd T x) (C.rows d)
   | _=>none)
  | _,_=>none)
 | .build t ps=>
  (match aq C.tbl t with
  | some ⟨.strct _ fs,_,_,zero,_⟩=>
   (match qf fs (fun t=>(aq C.tbl t).map (·.size)) zero (ps.toList.map fun (i,x)=>(i,opd T x)) with
   | some cs=>some (.pure (.agg cs))
   | none=>none)
  | _=>none)
 | .buildSlice t len ps=>
  (match o.dst,aq C.tbl t with
  | some d,some ⟨.slice e,_,_,_,_⟩=>
   (match aq C.tbl e with
   | some ⟨_,size,_,_,some τ⟩=>
    (match lR τ 0 (ps.toList.map fun (i,x)=>(i,opd T x)),look d with
    | some l,none=>if (du l len && Nat.ble (len *size) 1000000) && (ps.toList.map fun (i,x)=>(i,opd T x)).all (fun p=>(a8 p.2).all fP) then (match C.rows d with | false=>(match C.rows (d+5000) with | false=>some ⟨none,.lst τ l (some d),[(d,.tail τ l.length)]⟩ | true=>some ⟨none,.glst l.length l.length d,[(d,.grow τ l.length l)]⟩) | true=>some ⟨none,.arr d l.length size,[(d,.box (.row τ l))]⟩) else none
    | _,_=>none)
   | _=>none)
  | _,_=>none)
 | .load t a=>
  (match aq C.tbl t with
  | some r=>
   (match opd T a with
   | .ptr id off=>
    (match look id with
    | some (.box c)=>(gN r c off).map .pure
    | _=>none)
   | .cptr c=>(gN r c 0).map .pure
   | .aptr id i w off=>
    (match look id with
    | some (.box (.row τ xs))=>tC r τ xs i w off
    | _=>none)
   | .gptr k s i w off=>
    (match look k with
    | some (.grow τ s' xs)=>yn r τ s' xs s i w off
    | _=>none)
   | _=>none)
  | none=>none)
 | .store t a x=>
  (match aq C.tbl t with
  | some r=>
   (match r.size with
   | 0=>(match opd T a,a8 (opd T x) with | .ptr _ _,[]=>some (.pure .undef) | _,_=>none)
   | _+1=>
   (match opd T a with
   | .ptr id off=>
    (match look id with
    | some (.box c)=>
     (match lQ r c off (opd T x) with
     | some c=>some ⟨none,.undef,[(id,.box c)]⟩
     | none=>none)
    | _=>none)
   | .aptr id i w off=>
    (match look id with
    | some (.box (.row τ xs))=>lW r id τ xs i w off (opd T x)
    | _=>none)
   | .gptr k s i w off=>
    (match look k with
    | some (.grow τ s' xs)=>rQ r k τ s' xs s i w off (opd T x)
    | _=>none)
   | .tptr τ n k=>
    (match look k with
    | some (.tailp τ' m _)=>
     if τ'=τ then
      (match arg τ (opd T x) with
      | some v=>if (a8 (opd T x)).all fP && (du (a8 (opd T x)) r.size && Nat.beq r.size (a7 τ)) then some ⟨some (dp (n=m)),.undef,[(k,.tailp τ m v)]⟩ else none
      | none=>none)
     else none
    | _=>none)
   | _=>none))
  | none=>none)
 | .nilCheck x=>
  (match opd T x with
  | .ptr id off=>some (.pure (.ptr id off))
  | .cptr c=>some (.pure (.cptr c))
  | .aptr id i w off=>some (.pure (.aptr id i w off))
  | .gptr k s i w off=>some (.pure (.gptr k s i w off))
  | .fn f cs=>some (.pure (.fn f cs))
  | .pt n x=>some ⟨some (dp (x.isSome=true)),.cptr (.st n (x.getD (dfl (.st n)))),[]⟩
  | _=>none)
 | .binOp op t x y _=>
  (match opd T x,opd T y with
  | .int k a,.int k' b=>(match xw op with | true=>rO op k a b | false=>if k=k' then (match vM C o with | true=>oY op k a b | false=>oX op k a b) else none)
  | .str a,.str b=>rP op a b
  | .bool a,.bool b=>(match aq C.tbl t with | some ⟨.bool,_,_,_,_⟩=>oZ op a b | _=>none)
  | .pt _ a,.nilp=>
   (match aq C.tbl t with
   | some ⟨.ptr _,_,_,_,_⟩=>(match op with | .eql=>some (.pure (.bool a.isNone)) | .neq=>some (.pure (.bool a.isSome)) | _=>none)
   | _=>none)
  | .iface _ _,.nilif=>
   (match aq C.tbl t with
   | some ⟨.iface,_,_,_,_⟩=>(match op with | .eql=>some (.pure (.bool false)) | .neq=>some (.pure (.bool true)) | _=>none)
   | _=>none)
  | .nilif,.nilif=>
   (match aq C.tbl t,y with
   | some ⟨.iface,_,_,_,_⟩,.const _=>(match op with | .eql=>some (.pure (.bool true)) | .neq=>some (.pure (.bool false)) | _=>none)
   | _,_=>none)
  | .nilm,.nilm=>
   (match aq C.tbl t,y with
   | some ⟨.map _ _,_,_,_,_⟩,.const _=>(match op with | .eql=>some (.pure (.bool true)) | .neq=>some (.pure (.bool false)) | _=>none)
   | _,_=>none)
  | .map _,.nilm=>
   (match aq C.tbl t,y with
   | some ⟨.map _ _,_,_,_,_⟩,.const _=>(match op with | .eql=>some (.pure (.bool false)) | .neq=>some (.pure (.bool true)) | _=>none)
   | _,_=>none)
  | .nils,.nils=>
   (match aq C.tbl t,y with
   | some ⟨.slice _,_,_,_,_⟩,.const _=>(match op with | .eql=>some (.pure (.bool true)) | .neq=>some (.pure (.bool false)) | _=>none)
   | _,_=>none)
  | .lst _ xs _,.nils=>
   (match aq C.tbl t,y with
   | some ⟨.slice _,_,_,_,_⟩,.const _=>(match op with | .eql=>some ⟨some (dp (xs.length≠0)),.bool false,[]⟩ | .neq=>some ⟨some (dp (xs.length≠0)),.bool true,[]⟩ | _=>none)
   | _,_=>none)
  | x,y=>(match fS x,fS y with | some cs,some ds=>rU C op t cs ds | _,_=>none))
 | .unOp op _ x=>
  (match op,opd T x with
  | .not,.bool b=>some (.pure (.bool (!b)))
  | .neg,.int k n=>some ⟨some (dp (inR k (0 - n))),.int k (0 - n),[]⟩
  | _,_=>none)
 | .convert s d x=>
  (match aq C.tbl s,aq C.tbl d,opd T x with
  | some _,some ⟨.int k,_,_,_,_⟩,.int _ n=>(match vM C o with | true=>some (.pure (.int k (k.wrap n))) | false=>some ⟨some (dp (inR k n)),.int k n,[]⟩)
  | some ⟨.slice e,_,_,_,_⟩,some ⟨.str,_,_,_,_⟩,.glst t n i=>vF C e t n i look
  | some _,some ⟨.str,_,_,_,_⟩,.str s=>some (.pure (.str s))
  | _,_,x=>yo C s d x)
 | .fieldAddr s x f=>
  (match aq C.tbl s with
  | some r=>
   (match lp r f,opd T x with
   | some (off,_),.ptr id o=>some (.pure (.ptr id (o+off)))
   | some (off,_),.aptr id i w o=>some (.pure (.aptr id i w (o+off)))
   | some (off,_),.gptr k s i w o=>some (.pure (.gptr k s i w (o+off)))
   | some (off,t),.cptr c=>
    (match off,c,aq C.tbl t with
    | off,.st n x,some ⟨_,_,_,_,some (.st m)⟩=>
     (match gI n off x with
     | some (.st m' y)=>if m'=m then some (.pure (.cptr (.st m' y))) else none
     | _=>(match iM (a8 (.st n x)) off with | some (c ::r)=>some (.pure (.cptr (.agg (c ::r)))) | _=>none))
    | off,c,_=>(match iM (a8 c) off with | some (c ::r)=>some (.pure (.cptr (.agg (c ::r)))) | _=>none))
   | _,_=>none)
  | none=>none)
 | .field s x f=>
  (match aq C.tbl s with
  | some r=>
   (match lp r f with
   | some (off,t)=>
    (match aq C.tbl t,opd T x with
    | some rt,.agg cs=>(gN rt (.agg cs) off).map .pure
    | some rt,.st n x=>if zk r n then (gN rt (.st n x) off).map .pure else none
    | _,_=>none)
   | _=>none)
  | none=>none)
 | .indexAddr t x i=>
  (match aq C.tbl t,opd T x,opd T i with
  | some ⟨.slice e,_,_,_,_⟩,.lst τ xs _,.int _ n=>
   (match aq C.tbl e with
   | some re=>if re.ty=some τ then some ⟨some (dp (0<=n/\n < xs.length)),.cptr (inj τ (xs.getD n.toNat (dfl τ))),[]⟩ else none
   | none=>none)
  | some ⟨.slice e,_,_,_,_⟩,.arr id m w,.int _ n=>
   (match aq C.tbl e with
   | some re=>if re.size=w then some ⟨some (dp (0<=n/\n < m)),.aptr id n.toNat w 0,[]⟩ else none
   | none=>none)
  | some ⟨.slice e,_,_,_,_⟩,.glst s m k,.int _ n=>
   (match aq C.tbl e with
   | some re=>some ⟨some (dp (0<=n/\n < m)),.gptr k s n.toNat re.size 0,[]⟩
   | none=>none)
  | some ⟨.slice e,_,_,_,_⟩,.lstp τ xs k,.int _ n=>
   (match aq C.tbl e with
   | some re=>if re.ty=some τ then some ⟨some (dp (n=(xs.length:Int))),.tptr τ xs.length k,[]⟩ else none
   | none=>none)
  | some ⟨.arr e m,_,_,_,_⟩,.ptr id 0,.int _ n=>
   (match aq C.tbl e with
   | some re=>some ⟨some (dp (0<=n/\n < m)),.aptr id n.toNat re.size 0,[]⟩
   | none=>none)
  | _,_,_=>none)
 | .index t x i=>
  (match aq C.tbl t,opd T x,opd T i with
  | some ⟨.str,_,_,_,_⟩,.str s,.int _ n=>some ⟨some (dp (0<=n/\n < s.length)),.int .u8 ((s.getD n.toNat 0).toNat:Int),[]⟩
  | _,_,_=>none)
 | .slice t x lo hi none=>(match opd T x with | .glst s n k=>rR C t s n k (bnd T lo) (bnd T hi) look | x=>rV C t x (bnd T lo) (bnd T hi))
 | .extract x i=>(match opd T x with | .tup vs=>(nth vs i).map .pure | _=>none)
 | .call {callee:=.builtin .len,args,argTypes}=>
  (match args.toList,argTypes.toList with
  | [x],[t]=>yF C t (opd T x) look
  | _,_=>none)
 | .call {callee:=.builtin .append,args,argTypes}=>
  (match args.toList,argTypes.toList,o.dst with
  | [x,y],[t,t'],some d=>if t ==t' then (match C.pend d,C.rows d || yD (opd T x) with | true,_=>lq C t d (opd T x) (opd T y) look | false,true=>lr C t d (opd T x) (opd T y) look | false,false=>p7 C t d (opd T x) (opd T y) look) else (match opd T y with | .str s=>lv C t t' (opd T x) s look | _=>none)
  | _,_,_=>none)
 | .call {callee:=.builtin .max,args,..}=>
  (match args.toList with
  | [x,y]=>(match opd T x,opd T y with | .int k a,.int k' b=>if k=k' then some (.pure (.int k (max a b))) else none | _,_=>none)
  | _=>none)
 | .call {callee:=.builtin .min,args,..}=>
  (match args.toList with
  | [x,y]=>(match opd T x,opd T y with | .int k a,.int k' b=>if k=k' then some (.pure (.int k (min a b))) else none | _,_=>none)
  | _=>none)
 | .call {callee:=.builtin _,..}=>none
 | .call _=>(match dM C o T look with | some r=>some (dx (gQ C o) look r.eff) | none=>none)
 | .makeFunc (.func f) first caps=>if first.isEmpty then some (.pure (.fn f (caps.toList.map (opd T)))) else none
 | .makeInterface t x=>(match aq C.tbl t with | some r=>(match r.ti with | .iface=>none | _=>some (.pure (.iface t (opd T x)))) | none=>none)
 | .typeAssert x _ t true=>
  (match opd T x,aq C.tbl t with
  | .iface t' a,some r=>(match r.ti with | .iface=>none | _=>if t'=t then some (.pure (.tup [a,.bool true])) else none)
  | _,_=>none)
 | .panic x=>(match opd T x with | .iface _ _=>some (.pure .undef) | _=>none)
 | .makeMap t h=>
  (match o.dst,aq C.tbl t with
  | some d,some ⟨.map k e,_,_,_,_⟩=>
   (match aq C.tbl k,aq C.tbl e,look d with
   | some ⟨_,_,_,_,some κ⟩,some ⟨_,_,_,_,some τ⟩,none=>
    (match h.map (opd T) with
    | none | some (.int _ _)=>some ⟨none,.map d,[(d,.map κ τ [])]⟩
    | _=>none)
   | _,_,_=>none)
  | _,_=>none)
 | .lookup t x k ok=>fv C t (opd T x) (opd T k) ok look
 | .mapUpdate t x k v=>gh C t (opd T x) (opd T k) (opd T v) look
 | .insert t x k v=>gh C t (opd T x) (opd T k) (opd T v) look
 | .mapEntry t x k=>lX C t (opd T x) (opd T k) look
 | .entryStore _ x s v=>gR (opd T x) (opd T s) (opd T v) look
 | .makeSlice t n c=>
  (match o.dst,aq C.tbl t,opd T n,opd T c with
  | some d,some ⟨.slice e,_,_,_,_⟩,.int .i64 a,.int .i64 b=>
   (match aq C.tbl e,look d with
   | some ⟨_,size,bytes,zero,some τ⟩,none=>
    (match lN τ zero with
    | some z=>
     (match n with
     | .const (.int _ (.ofNat 0))=>some ⟨some (dp (0<=b/\b *bytes<=140737488355328)),.lst τ [] (some d),[(d,.tail τ 0)]⟩
     | _=>(match C.rows (d+5000) with
      | false=>some ⟨some (dp (0<=a/\a<=b/\b *bytes<=140737488355328)),.arr d a.toNat size,[(d,.box (.row τ (List.replicate a.toNat z)))]⟩
      | true=>some ⟨some (dp (0<=a/\a<=b/\b *bytes<=140737488355328)),.glst a.toNat (List.replicate a.toNat z).length d,[(d,.grow τ a.toNat (List.replicate a.toNat z))]⟩))
    | none=>none)
   | _,_=>none)
  | _,_,_,_=>none)
 | _=>none
def lY (t:List (Nat × AV)) (d:Option Nat) (v:AV):List (Nat × AV):=
 match d with
 | some d=>fk t d v
 | none=>t
def bz:List (Nat × SObj)→List (Nat × SObj)→List (Nat × SObj)
 | b,[]=>b
 | b,(i,o) ::r=>bz (l6 b i o) r
def St.put (s:St) (d:Option Nat) (e:Eff):St:=⟨lY s.t d e.val,bz s.b e.upd⟩
def dz (ops:List Oper) (i:Nat):Bool:=ops.any fun o=>match o.guard with | some (j,_)=>j ==i | none=>false
def sp (b:Bool) (p q:Prop):Prop:=if b=true then p else q
def lZ:Option DP→Prop→Prop
 | none,q=>q
 | some d,q=>d.p/\q
abbrev aV:=List Nat × List Nat
def ma (o:Oper):List Nat:=o.op.operands.toList.filterMap fun | .tmp t=>some t | _=>none
def bO (ops:List Oper) (o:Oper):List Nat:=
 ma o++(match o.guard with | some (g,_)=>((nth ops g).bind (·.dst)).toList | none=>[])
def mb (a b:List Nat):Bool:=a.all fun x=>!b.contains x
def dA (ops:List Oper) (x y:Oper):Bool:=
 (match x.dst with | some d=>!(bO ops y).contains d && !(y.dst ==some d) | none=>true) &&
 (match y.dst with | some d=>!(bO ops x).contains d | none=>true)
def bP (f g:aV):Bool:=mb f.2 (g.1++g.2) && mb g.2 f.1
def jR (x y:Oper):Bool:=
 match x.op,y.op with
 | .lookup t (.tmp a) (.tmp b) false,.mapEntry t' (.tmp a') (.tmp b')=>Nat.beq t t' && (Nat.beq a a' && Nat.beq b b')
 | _,_=>false
def mc (acc:List Nat) (o:Oper):Nat:=(o.after.toList.filter (Region.binds .any)).foldl (init:=0) fun m e=>m ||| 2 ^ e.on ||| acc.getD e.on 0
def cJ (ops:List Oper):List Nat:=ops.foldl (init:=[]) fun acc o=>acc++[mc acc o]
def cN (ops:List Oper) (fs:List aV):Bool:=
 ((List.range ops.length).all fun j=>(List.range j).all fun i=>
  ((cJ ops).getD j 0).testBit i ||
  (match nth ops i,nth ops j,nth fs i,nth fs j with
   | some x,some y,some f,some g=>dA ops x y && (bP f g || jR x y)
   | _,_,_,_=>false)) &&
 (ops.zipIdx.all fun (o,j)=>o.after.all fun e=>!Region.binds .any e || Nat.blt e.on j)
def aX:Nat→List aV→List (Nat × aV)
 | _,[]=>[]
 | i,f ::r=>(i,f) ::aX (i+1) r
def fK:List (Nat × aV)→Nat→aV
 | [],_=>([],[])
 | (i,f) ::r,k=>if i ==k then f else fK r k
def yG (ops:List Oper) (j:Nat) (fl:List (Nat × aV)):Bool:=
 (fl.all fun (a,f)=>a ==j || ((fl.all fun (b,g)=>!Nat.blt a b || ((cJ ops).getD b 0).testBit a ||
  (match nth ops a,nth ops b with
   | some x,some y=>dA ops x y && bP f g
   | _,_=>false)) && !((cJ ops).getD a 0).testBit j)) &&
 (fl.all fun (b,g)=>!Nat.blt j b || ((cJ ops).getD b 0).testBit j || (match nth ops j,nth ops b with | some x,some y=>dA ops x y && bP (fK fl j) g | _,_=>false)) &&
 (ops.zipIdx.all fun (o,k)=>o.after.all fun e=>!Region.binds .any e || Nat.blt e.on k) &&
 ((List.range ops.length).all fun k=>k ==j || (fl.any fun x=>x.1 ==k) || ((cJ ops).getD k 0).testBit j)
def iy (C:Cfg) (ops:List Oper) (j:Nat):List Oper→Nat→St→List (Nat × aV)→(List (Nat × aV)→Prop)→Prop
 | [],_,_,fl,k=>k fl
 | o ::r,i,s,fl,k=>
  match ((cJ ops).getD i 0).testBit j,o.guard,dz ops i with
  | true,_,_=>iy C ops j r (i+1) s fl k
  | false,none,false=>
   (match aj C o (aJ s.t) (ah s.b),bd C o (aJ s.t) (ah s.b) with
   | some e,none=>lZ e.ob (iy C ops j r (i+1) (s.put o.dst e) (fl++[(i,(ar C o (aJ s.t) (ah s.b),e.upd.map (·.1)))]) k)
   | _,_=>False)
  | _,_,_=>False
def jS (ops:List Oper) (j:Nat) (fl:List (Nat × aV)):List Nat:=(fl.filter fun x=>!(x.1 ==j) && !((cJ ops).getD j 0).testBit x.1).flatMap fun x=>x.2.2
def qh (A:List Nat) (b:List (Nat × SObj)):St:=⟨[],b.filter fun x=>!A.contains x.1⟩
def bp (A:List Nat) (s:St):Bool:=(s.t.all fun x=>mb (ids x.2) A) && (s.b.all fun x=>mb (rS x.2) A)
def pa (C:Cfg) (ops:List Oper) (draw:Bool) (kp:AV→St→Prop) (r:List Oper) (i:Nat) (s:St) (fs:List aV) (f:aV) (pv:AV) (u:List (Nat × SObj)):Prop:=
 match draw with
 | false=>kp pv ⟨s.t,bz s.b u⟩
 | true=>iy C ops i r (i+1) s (aX 0 (f ::fs).reverse) fun fl=>
  match yG ops i fl && bp (jS ops i fl) (qh (jS ops i fl) (bz s.b u)) && mb (ids pv) (jS ops i fl) && (jS ops i fl).all fun x=>!b9 x with
  | true=>kp pv (qh (jS ops i fl) (bz s.b u))
  | false=>False
def b5 (C:Cfg) (ops:List Oper) (draw:Bool) (kp:AV→St→Prop):List Oper→Nat→St→List aV→(St→List aV→Prop)→Prop
 | [],_,s,fs,k=>k s fs.reverse
 | o ::r,i,s,fs,k=>
  let on:Unit→Prop:=fun _=>
   match aj C o (aJ s.t) (ah s.b) with
   | none=>False
   | some e=>
    lZ e.ob
    (match bd C o (aJ s.t) (ah s.b) with
    | none=>
     (match dz ops i,e.val with
     | true,.bool b=>
      sp b (b5 C ops draw kp r (i+1) (s.put o.dst {e with val:=.bool true}) ((ar C o (aJ s.t) (ah s.b),e.upd.map (·.1)) ::fs) k)
       (b5 C ops draw kp r (i+1) (s.put o.dst {e with val:=.bool false}) ((ar C o (aJ s.t) (ah s.b),e.upd.map (·.1)) ::fs) k)
     | true,_=>False
     | false,_=>b5 C ops draw kp r (i+1) (s.put o.dst e) ((ar C o (aJ s.t) (ah s.b),e.upd.map (·.1)) ::fs) k)
    | some (b,pv,u)=>
     (match dz ops i with
     | true=>False
     | false=>sp b (pa C ops draw kp r i s fs (ar C o (aJ s.t) (ah s.b),e.upd.map (·.1)) pv u) (b5 C ops draw kp r (i+1) (s.put o.dst e) ((ar C o (aJ s.t) (ah s.b),e.upd.map (·.1)) ::fs) k)))
  let off:Unit→Prop:=fun _=>b5 C ops draw kp r (i+1) ⟨lY s.t o.dst (.tup []),s.b⟩ (([],[]) ::fs) k
  match o.guard with
  | none=>on ()
  | some (j,want)=>
   match (nth ops j).bind (·.dst) with
   | none=>False
   | some d=>
    match aJ s.t d with
    | .bool true=>if want then on () else off ()
    | .bool false=>if want then off () else on ()
    | .tup []=>off ()
    | _=>False
def me (ops:List Oper):List Nat:=
 ops.filterMap fun o=>match o.op with
  | .alloc _ | .box .. | .buildSlice .. | .makeSlice .. | .makeMap .. | .call {callee:=.builtin .append,..}=>o.dst
  | _=>none
def pb (ops:List Oper):List Nat:=
 ops.filterMap fun o=>match o.op with
  | .call {callee:=.value _,..}=>o.dst
  | _=>none
def tE (ds cs:List Nat) (i:Nat):Bool:=ds.contains i || (Nat.ble 1000 i && cs.contains (i % 1000))
def enter (ops:List Oper) (s:St):Option St:=
 let A:=(s.b.map (·.1)).filter fun i=>tE (me ops) (pb ops) i && !b9 i
 if A.isEmpty then some s else
  let s':St:=⟨s.t.filter fun x=>!A.contains x.1,s.b.filter fun x=>!A.contains x.1⟩
  if bp A s' then some s' else none
mutual
def pubV (id:Nat) (c:AV):AV→AV
 | .ptr i o=>(match o with | 0=>if i=id then .cptr c else .ptr i 0 | o+1=>.ptr i (o+1))
 | .arr i n w=>if i=id then (match c with | .row τ xs=>if w=a7 τ then .lst τ (xs.take n) none else .arr i n w | _=>.arr i n w) else .arr i n w
 | .cptr d=>.cptr (pubV id c d)
 | .agg cs=>.agg (pubVs id c cs)
 | .tup cs=>.tup (pubVs id c cs)
 | .fn f cs=>.fn f (pubVs id c cs)
 | .iface t a=>.iface t (pubV id c a)
 | a=>a
def pubVs (id:Nat) (c:AV):List AV→List AV
 | []=>[]
 | a ::r=>pubV id c a ::pubVs id c r
end
def vN (id:Nat) (c:AV):SObj→SObj
 | .box d=>.box (pubV id c d)
 | o=>o
def yH (id:Nat) (s:St):Option St:=
 match ah s.b id with
 | some (.box c)=>
  let s':St:=⟨s.t.map fun x=>(x.1,pubV id c x.2),(s.b.filter fun x=>!(x.1 ==id)).map fun x=>(x.1,vN id c x.2)⟩
  if bp [id] s' && mb (ids c) [id] && !b9 id then some s' else none
 | _=>none
def jT:List Nat→St→Option St
 | [],s=>some s
 | i ::r,s=>(match yH i s with | some s=>jT r s | none=>none)
mutual
def frzV (k:Nat) (τ:Ty) (xs:List (den τ)):AV→AV
 | .glst s n j=>(match Nat.beq j k with | true=>.lst τ xs none | false=>.glst s n j)
 | .cptr d=>.cptr (frzV k τ xs d)
 | .agg cs=>.agg (frzVs k τ xs cs)
 | .tup cs=>.tup (frzVs k τ xs cs)
 | .fn f cs=>.fn f (frzVs k τ xs cs)
 | .iface t a=>.iface t (frzV k τ xs a)
 | a=>a
def frzVs (k:Nat) (τ:Ty) (xs:List (den τ)):List AV→List AV
 | []=>[]
 | a ::r=>frzV k τ xs a ::frzVs k τ xs r
end
mutual
def stpV (k:Nat):AV→List (Nat × Nat)
 | .glst s n j=>(match Nat.beq j k with | true=>[(s,n)] | false=>[])
 | .cptr d=>stpV k d
 | .agg cs=>stpVs k cs
 | .tup cs=>stpVs k cs
 | .fn _ cs=>stpVs k cs
 | .iface _ a=>stpV k a
 | _=>[]
def stpVs (k:Nat):List AV→List (Nat × Nat)
 | []=>[]
 | a ::r=>stpV k a++stpVs k r
end
def vO (k:Nat) (τ:Ty) (xs:List (den τ)):SObj→SObj
 | .box c=>.box (frzV k τ xs c)
 | o=>o
def stpO (k:Nat):SObj→List (Nat × Nat)
 | .box c=>stpV k c
 | _=>[]
def bW (s n:Nat):List (Nat × Nat)→Prop
 | []=>True
 | (a,b) ::r=>(a=s/\b=n)/\bW s n r
def pc (k:Nat) (τ:Ty) (xs:List (den τ)) (ts:List Nat):List (Nat × AV)→List (Nat × AV)
 | []=>[]
 | (i,a) ::r=>(i,match mb (ids a) [k] with | true=>a | false=>(match ts.contains i with | true=>frzV k τ xs a | false=>.undef)) ::pc k τ xs ts r
def vP (k:Nat) (ts:List Nat):List (Nat × AV)→List (Nat × Nat)
 | []=>[]
 | (i,a) ::r=>(match ts.contains i with | true=>stpV k a | false=>[])++vP k ts r
def yI (k:Nat) (ts:List Nat) (s:St):Option (Prop × St):=
 match ah s.b k with
 | some (.grow τ s' xs)=>
  let r:=s.b.filter fun x=>!(x.1 ==k)
  let s2:St:=⟨pc k τ xs ts s.t,r.map fun x=>(x.1,vO k τ xs x.2)⟩
  if bp [k] s2 && !b9 k then some (bW s' xs.length (vP k ts s.t++r.flatMap fun x=>stpO k x.2),s2) else none
 | _=>none
mutual
def lensV (k:Nat):AV→List Nat
 | .lstp _ xs j=>(match Nat.beq j k with | true=>[xs.length] | false=>[])
 | .cptr d=>lensV k d
 | .agg cs=>lensVs k cs
 | .tup cs=>lensVs k cs
 | .fn _ cs=>lensVs k cs
 | .iface _ a=>lensV k a
 | _=>[]
def lensVs (k:Nat):List AV→List Nat
 | []=>[]
 | a ::r=>lensV k a++lensVs k r
end
mutual
def finV (k:Nat) (τ:Ty) (x:den τ):AV→AV
 | .lstp σ xs j=>(match Nat.beq j k with | true=>(match cM τ σ [x] with | some l=>.lst σ (xs++l) (some k) | none=>.undef) | false=>.lstp σ xs j)
 | .tptr σ n j=>(match Nat.beq j k with | true=>.undef | false=>.tptr σ n j)
 | .cptr d=>.cptr (finV k τ x d)
 | .agg cs=>.agg (finVs k τ x cs)
 | .tup cs=>.tup (finVs k τ x cs)
 | .fn f cs=>.fn f (finVs k τ x cs)
 | .iface t a=>.iface t (finV k τ x a)
 | a=>a
def finVs (k:Nat) (τ:Ty) (x:den τ):List AV→List AV
 | []=>[]
 | a ::r=>finV k τ x a ::finVs k τ x r
end
def yq (k:Nat):SObj→List Nat
 | .box c=>lensV k c
 | _=>[]
def um (k:Nat) (τ:Ty) (x:den τ):SObj→SObj
 | .box c=>.box (finV k τ x c)
 | o=>o
def pd (n:Nat):List Nat→Prop→Prop
 | [],q=>q
 | m ::r,q=>m=n/\pd n r q
def rW (k:Nat) (s:St) (Q:St→Prop):Prop:=
 match ah s.b k with
 | some (.tailp τ n x)=>
  pd n (s.t.flatMap (fun y=>lensV k y.2)++s.b.flatMap (fun y=>yq k y.2))
   (Q ⟨s.t.map fun y=>(y.1,finV k τ x y.2),(l6 s.b k (.tail τ (n+1))).map fun y=>(y.1,um k τ x y.2)⟩)
 | _=>Q s
def rX:List Nat→St→(St→Prop)→Prop
 | [],s,Q=>Q s
 | k ::r,s,Q=>rW k s fun s=>rX r s Q
def lx:List (Nat × SObj)→List Nat
 | []=>[]
 | (k,.tailp _ _ _) ::r=>k ::lx r
 | _ ::r=>lx r
def yJ (s:St) (Q:St→Prop):Prop:=rX (lx s.b) s Q
def LeF (G:List Nat):AV→AV→Prop
 | _,.undef=>True
 | .int k n,.int k' n'=>if k=k' then n=n' else False
 | .bool b,.bool b'=>b=b'
 | .str s,.str s'=>s=s'
 | .lst τ xs o,.lst σ ys p=>(match cM τ σ xs with | some xs=>xs=ys | none=>False)/\(if p=none∨p=o then True else False)
 | .nils,.lst _ ys p=>(match p with | none=>True | some k=>if G.contains k=true then True else False)/\ys=[]
 | .nils,.nils=>True
 | .nilp,.nilp=>True
 | .ptr i o,.ptr j p=>if i=j/\o=p then True else False
 | .st n x,.st m y=>(match gL n m x with | some x=>x=y | none=>False)
 | .row τ xs,.row σ ys=>(match cM τ σ xs with | some xs=>xs=ys | none=>False)
 | .arr i n w,.arr j m v=>if i=j/\w=v then n=m else False
 | .aptr i n w o,.aptr j m v p=>if i=j/\w=v/\o=p then n=m else False
 | .glst s n i,.glst t m j=>if i=j then s=t/\n=m else False
 | .nils,.glst t m j=>(if G.contains j=true then True else False)/\t=0/\m=0
 | .gptr i s n w o,.gptr j t m v p=>if i=j/\w=v/\o=p then s=t/\n=m else False
 | .map i,.map j=>if i=j then True else False
 | .bptr i,.bptr j=>if i=j then True else False
 | .pt n x,.pt m y=>(match kF n m x with | some x=>x=y | none=>False)
 | .nilp,.pt _ y=>y=none
 | .nilif,.nilif=>True
 | .nilm,.nilm=>True
 | _,_=>False
def qi (G:List Nat):List AV→List AV→Prop
 | [],[]=>True
 | a ::r,b ::s=>LeF G a b/\qi G r s
 | _,_=>False
def oc:AV→AV→Prop
 | .agg _,.undef=>False
 | .st _ _,.undef=>False
 | .row _ _,.undef=>False
 | _,_=>True
mutual
def LeV (G:List Nat):AV→AV→Prop
 | .cptr c,.cptr d=>oc c d/\LeV G c d
 | .cptr (.st n x),.pt m y=>(match gL n m x with | some x=>some x=y | none=>False)
 | .iface t a,.iface u b=>(if t=u then True else False)/\LeV G a b
 | .agg cs,.st m y=>qi G cs (cells (.st m) y)
 | .st n x,.agg ds=>qi G (cells (.st n) x) ds
 | .agg cs,.agg ds=>LeL G cs ds
 | .tup cs,.tup ds=>LeL G cs ds
 | .fn f cs,.fn g ds=>(if f=g then True else False)/\LeL G cs ds
 | a,b=>LeF G a b
def LeL (G:List Nat):List AV→List AV→Prop
 | [],[]=>True
 | a ::r,b ::s=>LeV G a b/\LeL G r s
 | _,_=>False
end
def tF (κ τ κ' τ':Ty) (m:List (den κ × den τ)):Option (List (den κ' × den τ')):=if h:κ=κ'/\τ=τ' then some (h.1 ▸ h.2 ▸ m) else none
def LeT (G:List Nat) (s:St):List (Nat × AV)→Prop
 | []=>True
 | (i,a) ::r=>LeV G (aJ s.t i) a/\LeT G s r
def LeB (G:List Nat) (s:St):List (Nat × SObj)→Prop
 | []=>True
 | (i,.box d) ::r=>(match ah s.b i with | some (.box c)=>oc c d/\LeV G c d | _=>False)/\LeB G s r
 | (i,.tail τ n) ::r=>(match ah s.b i with | some (.tail σ m)=>(if σ=τ then m=n else False) | none=>n=0 | _=>False)/\LeB G s r
 | (i,.map κ τ m) ::r=>(match ah s.b i with | some (.map κ' τ' m')=>(match tF κ' τ' κ τ m' with | some m'=>m'=m | none=>False) | _=>False)/\LeB G s r
 | (i,.bld t u l) ::r=>(match ah s.b i with | some (.bld t' u' l')=>(if t'=t/\u'=u then l'=l else False) | _=>False)/\LeB G s r
 | (_,.tailp _ _ _) ::_=>False
 | (i,.grow τ s' xs) ::r=>(match ah s.b i with | some (.grow σ t ys)=>(match cM σ τ ys with | some ys=>t=s'/\ys=xs | none=>False) | none=>s'=0/\xs=[] | _=>False)/\LeB G s r
def aI {α:Type} (l:List (Nat × α)):List Nat:=l.map (·.1)
def cv (s s':St):List Nat:=(aI s'.b).filter fun i=>(ah s.b i).isNone
def LeS (s s':St):Prop:=
 (if bp ((aI s.b).filter fun i=>!(aI s'.b).contains i) s' && ((aI s.b).filter fun i=>!(aI s'.b).contains i).all (fun i=>!b9 i) then True else False)/\LeT (cv s s') s s'.t/\LeB (cv s s') s s'.b
def chk (b:Bool) (k:Prop):Prop:=match b with | true=>k | false=>False
def cF (G:List Nat) (a b:AV) (k:Prop):Prop:=
 match a,b with
 | _,.undef=>k
 | .int j n,.int j' n'=>chk (decide (j=j')) (n=n'/\k)
 | .bool b,.bool b'=>b=b'/\k
 | .str s,.str s'=>s=s'/\k
 | .lst τ xs o,.lst σ ys p=>(match cM τ σ xs with | some xs=>chk (decide (p=none∨p=o)) (xs=ys/\k) | none=>False)
 | .nils,.lst _ ys p=>(match p with | none=>ys=[]/\k | some i=>chk (G.contains i) (ys=[]/\k))
 | .nils,.nils=>k
 | .nilp,.nilp=>k
 | .ptr i o,.ptr j p=>chk (decide (i=j/\o=p)) k
 | .st n x,.st m y=>(match gL n m x with | some x=>x=y/\k | none=>False)
 | .row τ xs,.row σ ys=>(match cM τ σ xs with | some xs=>xs=ys/\k | none=>False)
 | .arr i n w,.arr j m v=>chk (decide (i=j/\w=v)) (n=m/\k)
 | .aptr i n w o,.aptr j m v p=>chk (decide (i=j/\w=v/\o=p)) (n=m/\k)
 | .glst s n i,.glst t m j=>chk (decide (i=j)) (s=t/\n=m/\k)
 | .nils,.glst t m j=>chk (G.contains j) (t=0/\m=0/\k)
 | .gptr i s n w o,.gptr j t m v p=>chk (decide (i=j/\w=v/\o=p)) (s=t/\n=m/\k)
 | .map i,.map j=>chk (decide (i=j)) k
 | .bptr i,.bptr j=>chk (decide (i=j)) k
 | .pt n x,.pt m y=>(match kF n m x with | some x=>x=y/\k | none=>False)
 | .nilp,.pt _ y=>y=none/\k
 | .nilif,.nilif=>k
 | .nilm,.nilm=>k
 | _,_=>False
def cFs (G:List Nat):List AV→List AV→Prop→Prop
 | [],[],k=>k
 | a ::r,b ::s,k=>cF G a b (cFs G r s k)
 | _,_,_=>False
def pe:AV→AV→Bool
 | .agg _,.undef=>false
 | .st _ _,.undef=>false
 | .row _ _,.undef=>false
 | _,_=>true
mutual
def cV (G:List Nat):AV→AV→Prop→Prop
 | .cptr c,.cptr d,k=>chk (pe c d) (cV G c d k)
 | .cptr (.st n x),.pt m y,k=>(match gL n m x with | some x=>some x=y/\k | none=>False)
 | .iface t a,.iface u b,k=>chk (Nat.beq t u) (cV G a b k)
 | .agg cs,.st m y,k=>cFs G cs (cells (.st m) y) k
 | .st n x,.agg ds,k=>cFs G (cells (.st n) x) ds k
 | .agg cs,.agg ds,k=>cL G cs ds k
 | .tup cs,.tup ds,k=>cL G cs ds k
 | .fn f cs,.fn g ds,k=>chk (Nat.beq f g) (cL G cs ds k)
 | a,b,k=>cF G a b k
def cL (G:List Nat):List AV→List AV→Prop→Prop
 | [],[],k=>k
 | a ::r,b ::s,k=>cV G a b (cL G r s k)
 | _,_,_=>False
end
def cT (G:List Nat) (s:St):List (Nat × AV)→Prop→Prop
 | [],k=>k
 | (i,a) ::r,k=>cV G (aJ s.t i) a (cT G s r k)
def cB (G:List Nat) (s:St):List (Nat × SObj)→Prop
 | []=>True
 | (i,.box d) ::r=>(match ah s.b i with | some (.box c)=>chk (pe c d) (cV G c d (cB G s r)) | _=>False)
 | (i,.tail τ n) ::r=>
  (match ah s.b i with
  | some (.tail σ m)=>chk (decide (σ=τ)) (m=n/\cB G s r)
  | none=>n=0/\cB G s r
  | _=>False)
 | (i,.map κ τ m) ::r=>(match ah s.b i with | some (.map κ' τ' m')=>(match tF κ' τ' κ τ m' with | some m'=>m'=m/\cB G s r | none=>False) | _=>False)
 | (i,.bld t u l) ::r=>(match ah s.b i with | some (.bld t' u' l')=>chk (decide (t'=t/\u'=u)) (l'=l/\cB G s r) | _=>False)
 | (_,.tailp _ _ _) ::_=>False
 | (i,.grow τ s' xs) ::r=>
  (match ah s.b i with
  | some (.grow σ t ys)=>(match cM σ τ ys with | some ys=>t=s'/\ys=xs/\cB G s r | none=>False)
  | none=>s'=0/\xs=[]/\cB G s r
  | _=>False)
def cS (s s':St):Prop:=
 chk (bp ((aI s.b).filter fun i=>!(aI s'.b).contains i) s' && ((aI s.b).filter fun i=>!(aI s'.b).contains i).all (fun i=>!b9 i))
  (cT (cv s s') s s'.t (cB (cv s s') s s'.b))
inductive SX where
 | normal | exit (id:Nat) | ret | pan (v:AV)
structure LA where
 ι:Type
 pre:ι→Prop
 t:ι→List (Nat × AV)
 b:ι→List (Nat × SObj)
 m:ι→Nat
structure An where
 l:List (Nat × (St→LA))
 p:List (Nat × List Nat)
 j:List (Nat × (St→List (Nat × AV) × List (Nat × SObj)))
def vQ:List (Nat × (St→List (Nat × AV) × List (Nat × SObj)))→Nat→Option (St→List (Nat × AV) × List (Nat × SObj))
 | [],_=>none
 | (j,x) ::r,i=>if j ==i then some x else vQ r i
def mf:List (Nat × List Nat)→Nat→List Nat
 | [],_=>[]
 | (j,x) ::r,i=>if j ==i then x else mf r i
def bu:Code→List Nat
 | .region _ ops _=>ops.toList.filterMap (·.dst)
 | .seq a b=>bu a++bu b
 | .cond _ a b=>bu a++bu b
 | .block _ c | .loop c | .scope c=>bu c
 | _=>[]
def eY (D:List Nat) (s:St) (ts:List (Nat × AV)) (bs:List (Nat × SObj)):St:=
 ⟨ts++s.t.filter fun x=>!D.contains x.1 && !(mg ts).contains x.1,bs++s.b.filter fun x=>!(tE D D x.1 && !b9 x.1) && !(mg bs).contains x.1⟩
where mg {α:Type} (l:List (Nat × α)):List Nat:=l.map (·.1)
def bS:Code→Option Nat
 | .region id _ _=>some id
 | .seq a b=>(bS a).or (bS b)
 | .cond _ a b=>(bS a).or (bS b)
 | .block _ c | .loop c | .scope c=>bS c
 | _=>none
def yr (l:List (Nat × (St→LA))) (i:Nat):Option (St→LA):=
 match l with
 | []=>none
 | (j,a) ::r=>if j ==i then some a else yr r i
def zl (s:St) (t:Nat) (f:Int→LA):LA:=match aJ s.t t with | .int _ n=>f n | _=>⟨Nat,fun _=>False,fun _=>[],fun _=>[],fun _=>0⟩
mutual
def forceV:AV→(AV→Prop)→Prop
 | .undef,k=>k .undef
 | .int κ n,k=>k (.int κ n)
 | .bool b,k=>k (.bool b)
 | .str s,k=>k (.str s)
 | .lst τ xs none,k=>k (.lst τ xs none)
 | .lst τ xs (some i),k=>k (.lst τ xs (some i))
 | .nils,k=>k .nils
 | .ptr i o,k=>k (.ptr i o)
 | .cptr c,k=>forceV c fun c=>k (.cptr c)
 | .nilp,k=>k .nilp
 | .st n x,k=>k (.st n x)
 | .agg cs,k=>forceL cs fun cs=>k (.agg cs)
 | .tup cs,k=>forceL cs fun cs=>k (.tup cs)
 | .fn f cs,k=>forceL cs fun cs=>k (.fn f cs)
 | .row τ xs,k=>k (.row τ xs)
 | .arr i n w,k=>k (.arr i n w)
 | .aptr i n w o,k=>k (.aptr i n w o)
 | .map i,k=>k (.map i)
 | .bptr i,k=>k (.bptr i)
 | .iface t a,k=>forceV a fun a=>k (.iface t a)
 | .nilif,k=>k .nilif
 | .nilm,k=>k .nilm
 | .pt n x,k=>k (.pt n x)
 | .lstp τ xs i,k=>k (.lstp τ xs i)
 | .tptr τ n i,k=>k (.tptr τ n i)
 | .glst s n i,k=>k (.glst s n i)
 | .gptr i s n w o,k=>k (.gptr i s n w o)
def forceL:List AV→(List AV→Prop)→Prop
 | [],k=>k []
 | a ::r,k=>forceV a fun a=>forceL r fun r=>k (a ::r)
end
def pg:List (Nat × AV)→(List (Nat × AV)→Prop)→Prop
 | [],k=>k []
 | (i,a) ::r,k=>forceV a fun a=>pg r fun r=>k ((i,a) ::r)
def dB:List (Nat × SObj)→(List (Nat × SObj)→Prop)→Prop
 | [],k=>k []
 | (i,.box c) ::r,k=>forceV c fun c=>dB r fun r=>k ((i,.box c) ::r)
 | (i,.tail τ n) ::r,k=>dB r fun r=>k ((i,.tail τ n) ::r)
 | (i,.map κ τ m) ::r,k=>dB r fun r=>k ((i,.map κ τ m) ::r)
 | (i,.bld t u l) ::r,k=>dB r fun r=>k ((i,.bld t u l) ::r)
 | (i,.tailp τ n x) ::r,k=>dB r fun r=>k ((i,.tailp τ n x) ::r)
 | (i,.grow τ s xs) ::r,k=>dB r fun r=>k ((i,.grow τ s xs) ::r)
def ev (s:St) (k:St→Prop):Prop:=pg s.t fun t=>dB s.b fun b=>k ⟨t,b⟩
def tG:List Oper→List Nat→List Oper→List Nat
 | _,_,[]=>[]
 | ops,w,o ::r=>((bO ops o).filter fun t=>!w.contains t)++tG ops (o.dst.toList++w) r
def fw:Code→List Nat
 | .region _ ops _=>tG ops.toList [] ops.toList
 | .seq a b=>fw a++fw b
 | .cond (.tmp t) a b=>t ::(fw a++fw b)
 | .cond _ a b=>fw a++fw b
 | .block _ c | .loop c | .scope c=>fw c
 | _=>[]
def yK:ResultVar→Nat
 | .tmp t=>t
 | .cell a _=>a
def yL (fn:Func) (c:Code):List Nat:=(fw c++fn.results.toList.map yK).eraseDups
def trim (keep:List Nat) (s:St):St:=⟨s.t.filter fun x=>keep.contains x.1,s.b⟩
def iz:List Nat→(List Nat→Prop)→Prop
 | [],k=>k []
 | 0 ::r,k=>iz r fun r=>k (0 ::r)
 | (n+1) ::r,k=>iz r fun r=>k ((n+1) ::r)
def xB (c:Operand) (v:Bool) (s:St):St:=
 match c with
 | .tmp t=>⟨fk s.t t (.bool v),s.b⟩
 | _=>s
structure KL where
 m1:Nat
 src:Operand
 it:Nat
 t:Nat
 nx:Nat
 c:Nat
 en:Nat
 k1:Nat
 kv:Nat
 d1:Nat
 dst:Nat
 k2:Nat
 t2:Nat
 n:Int
def KL.wr (L:KL):List Nat:=[L.m1,L.it,L.nx,L.c,L.en,L.k1,L.kv,L.d1,L.k2]
def mg:Code→Code→Option KL
 | .region _ r1 false,.block x (.loop (.seq (.region _ r2 false) (.seq (.cond (.tmp c) .skip (.exit x2)) (.block _ (.seq (.region _ r3 false) (.region _ r4 false))))))=>
  match r1.toList,r2.toList,r3.toList,r4.toList with
  | [⟨some m1,.move src,_,_,_,none⟩,⟨some it,.range t (.tmp m1'),_,_,_,none⟩],
   [⟨some nx,.next (.tmp it') false,_,_,_,none⟩,⟨some c',.extract (.tmp nx') 0,_,_,_,none⟩],
   [⟨some en,.entry (.tmp it''),_,_,_,none⟩,⟨some k1,.extract (.tmp en') 0,_,_,_,none⟩,⟨some kv,.assign (.tmp k1'),_,_,_,none⟩],
   [⟨some d1,.move (.tmp dst),_,_,_,none⟩,⟨some k2,.move (.tmp kv'),_,_,_,none⟩,⟨none,.mapUpdate t2 (.tmp d1') (.tmp k2') (.const (.int .i64 n)),_,_,_,none⟩]=>
   if x2 ==x && m1' ==m1 && it' ==it && it'' ==it && nx' ==nx && c' ==c && en' ==en && k1' ==k1 && kv' ==kv && d1' ==d1 && k2' ==k2 && okC .i64 n
    && aO [m1,it,nx,c,en,k1,kv,d1,k2,dst] then
    some ⟨m1,src,it,t,nx,c,en,k1,kv,d1,dst,k2,t2,n⟩ else none
  | _,_,_,_=>none
 | _,_=>none
def vR (C:Cfg) (L:KL) (s:St) (Q:SX→St→Prop):Prop:=
 match opd (aJ s.t) L.src,aJ s.t L.dst with
 | .map i,.map j=>
  match ah s.b i,ah s.b j,aq C.tbl L.t,aq C.tbl L.t2 with
  | some (.map .str _ m),some (.map .str (.int .i64) d),some ⟨.map _ _,_,_,_,_⟩,some ⟨.map kt _,_,_,_,_⟩=>
   (match aq C.tbl kt with
   | some rk=>
    if (fT C rk.ti .str && !(i ==j))=true then
     ∀d':List (Str × Int),(d'.map (·.1)).Nodup→(∀k,cu d' k=if (cu m k).isSome=true then some L.n else cu d k)→
      Q .normal ⟨s.t.filter fun x=>!L.wr.contains x.1,l6 s.b j (.map .str (.int .i64) d')⟩
    else False
   | none=>False)
  | _,_,_,_=>False
 | _,_=>False
def ly (C:Cfg) (keep:List Nat) (ops:Array Oper) (draw:Bool) (s:St) (Q:SX→St→Prop):Prop:=
 b5 C ops.toList draw (fun v s=>ev s fun s=>forceV v fun v=>Q (.pan v) s) ops.toList 0 s [] fun s' fs=>yJ s' fun s'=>ev (trim keep s') fun s'=>
  if draw then (if cN ops.toList fs then Q .normal s' else False) else Q .normal s'
def ca (i j k:Nat):Nat:=match Nat.beq k i with | true=>j | false=>(match Nat.beq k j with | true=>i | false=>k)
def vS (i j:Nat) (a:AV):Option AV:=mapV (fun k o=>some (ca i j k,o)) (fun k=>some (ca i j k)) (fun k=>some (ca i j k)) a
def uo (i j:Nat):List (Nat × AV)→List (Nat × AV)
 | []=>[]
 | (k,a) ::r=>(k,match vS i j a with | some a=>a | none=>.undef) ::uo i j r
def mh (i j:Nat):List (Nat × SObj)→Option (List (Nat × SObj))
 | []=>some []
 | (k,.box c) ::r=>(match vS i j c,mh i j r with | some c,some r=>some ((ca i j k,.box c) ::r) | _,_=>none)
 | (k,o) ::r=>(match mh i j r with | some r=>some ((ca i j k,o) ::r) | none=>none)
def vT (i j:Nat) (s:St):Option St:=
 match !b9 i && !b9 j with
 | true=>(match mh i j s.b with | some b=>some ⟨uo i j s.t,b⟩ | none=>none)
 | false=>none
def vU:List Nat→St→Option St
 | i ::j ::r,s=>(match vT i j s with | some s=>vU r s | none=>none)
 | _,s=>some s
def vV:List Nat→St→Option St
 | i ::j ::r,s=>(match ah s.b i with | some _=>(match vT i j s with | some s=>vV r s | none=>none) | none=>vV r s)
 | _,s=>some s
def tH (ann:An) (c:Code) (W:St→(SX→St→Prop)→Prop) (s:St) (Q:SX→St→Prop):Prop:=
 match ((bS c).bind (yr ann.l)).map (fun A=>A s) with
 | none=>False
 | some A=>
  (∃x,A.pre x/\ev (eY (bu c) s (A.t x) (A.b x)) fun i=>cS s i)/\
  ∀x,A.pre x→ev (eY (bu c) s (A.t x) (A.b x)) fun i=>W i fun
   | .normal,s'=>∃y,A.pre y/\A.m y < A.m x/\ev (eY (bu c) s (A.t y) (A.b y)) fun i=>cS s' i
   | e,s'=>Q e s'
def yM (C:Cfg) (keep:List Nat) (ops:Array Oper) (draw:Bool) (s:St):Option (Prop × (Bool→St)):=
 match draw,ops.toList with
 | false,[⟨some m,.move src,_,_,_,none⟩,⟨some c,.binOp .eql t (.tmp m') (.const (.slice none 0 0)) _,_,_,_,none⟩]=>
  (match Nat.beq m' m && !Nat.beq c m,aq C.tbl t,opd (aJ s.t) src with
  | true,some ⟨.slice _,_,_,_,_⟩,.lst τ xs _=>some (xs=[],fun b=>trim keep ⟨fk (fk s.t m (.lst τ xs none)) c (.bool b),s.b⟩)
  | true,some ⟨.slice _,_,_,_,_⟩,.glst s1 n k=>some (n=0,fun b=>trim keep ⟨fk (fk s.t m (.glst s1 n k)) c (.bool b),s.b⟩)
  | _,_,_=>none)
 | _,_=>none
def lz (C:Cfg) (keep:List Nat) (ann:An) (id:Nat) (ops:Array Oper) (draw:Bool) (s:St) (Q:SX→St→Prop):Prop:=
 match jT (mf ann.p id) s with
 | none=>False
 | some s=>
  match enter ops.toList s with
  | none=>False
  | some s=>
   match vQ ann.j id with
   | none=>ly C keep ops draw s Q
   | some J=>ly C keep ops draw s (fun x s'=>match x with | .normal=>cS s' (eY (bu (.region id ops draw)) s (J s).1 (J s).2) | e=>Q e s')/\
     ev (eY (bu (.region id ops draw)) s (J s).1 (J s).2) fun i=>Q .normal i
def swp (C:Cfg) (keep:List Nat) (ann:An):Code→St→(SX→St→Prop)→Prop
 | .skip,s,Q=>Q .normal s
 | .seq a b,s,Q=>
  match mg a b with
  | some L=>vR C L s fun x s=>ev s fun s=>Q x s
  | none=>
   match (bS b).bind fun r=>vQ ann.j (100000+r) with
   | none=>swp C keep ann a s fun
    | .normal,s'=>swp C keep ann b s' Q
    | e,s'=>Q e s'
   | some J=>swp C keep ann a s (fun x s'=>match x with | .normal=>cS s' (eY (bu a) s (J s).1 (J s).2) | e=>Q e s')/\
     ev (eY (bu a) s (J s).1 (J s).2) fun i=>swp C keep ann b i Q
 | .cond c a b,s,Q=>
  match opd (aJ s.t) c with
  | .bool b'=>sp b' (swp C keep ann a (xB c true s) Q) (swp C keep ann b (xB c false s) Q)
  | _=>False
 | .block id c,s,Q=>swp C keep ann c s fun
  | .exit j,s'=>if j ==id then Q .normal s' else Q (.exit j) s'
  | e,s'=>Q e s'
 | .exit id,s,Q=>Q (.exit id) s
 | .scope c,s,Q=>swp C keep ann c s Q
 | .label _,s,Q=>Q .normal s
 | .ret,s,Q=>
  match mf ann.p 500000 with
  | []=>Q .ret s
  | l=>(match vV l s with | some s=>ev s fun s=>Q .ret s | none=>False)
 | .region id ops draw,s,Q=>
  match yM C keep ops draw s with
  | some (p,f)=>∀b:Bool,(b=true→p)→ev (f b) fun s=>Q .normal s
  | none=>
  match vU (mf ann.p (300000+id)) s with
  | none=>False
  | some s=>
  match mf ann.p (400000+id) with
  | []=>lz C keep ann id ops draw s Q
  | k ::ts=>(match yI k ts s with | some (q,s)=>q/\ev s fun s=>lz C keep ann id ops draw s Q | none=>False)
 | .loop c,s,Q=>
  match (bS c).map fun r=>mf ann.p (200000+r) with
  | some (n ::l)=>swp C keep ann c s fun
   | .normal,s'=>ev s' fun i=>(match vU l i with | some i=>ev i fun i=>tH ann c (swp C keep ann c) i Q | none=>False)
   | e,s'=>Q e s'
  | _=>tH ann c (swp C keep ann c) s Q
 | _,_,_=>False
def gS (tbl:List (Nat × TR)) (s:St):List ResultVar→Option (List AV)
 | []=>some []
 | .tmp t ::r=>(match gS tbl s r with | some l=>some (aJ s.t t ::l) | none=>none)
 | .cell a t ::r=>
  (match aJ s.t a,aq tbl t with
   | .ptr id off,some rt=>
    (match ah s.b id with
    | some (.box c)=>(match gN rt c off,gS tbl s r with | some v,some l=>some (v ::l) | _,_=>none)
    | _=>none)
   | _,_=>none)
def dC:Nat→List AV→List (Nat × AV)
 | _,[]=>[]
 | i,a ::r=>(i,a) ::dC (i+1) r
def vW (res:Option (List AV)) (s:St) (val:AV) (b:List (Nat × SObj)):Prop:=
 match res with
 | some [a]=>cS ⟨[(0,a)],s.b⟩ ⟨[(0,val)],b⟩
 | some l=>(match val with | .tup rs=>if du l rs.length then cS ⟨dC 0 l,s.b⟩ ⟨dC 0 rs,b⟩ else False | _=>False)
 | none=>False
def bj (n:Nat):Code→Bool
 | .region _ ops _=>ops.toList.all fun o=>match o.dst with | some d=>Nat.blt d n | none=>true
 | .seq a b=>bj n a && bj n b
 | .cond _ a b=>bj n a && bj n b
 | .block _ c=>bj n c
 | .loop c=>bj n c
 | .scope c=>bj n c
 | _=>true
def fwp (C:Cfg) (ann:An) (fn:Func) (args:List AV) (S:List (Nat × SObj)) (A:Ans):Prop:=
 match fn.body with
 | none=>False
 | some c=>
  match bj fn.ntmps c && lP args fn.ntmps && (aI S).all b9 with
  | false=>False
  | true=>iz (yL fn c) fun keep=>ev ⟨dC 0 args,S⟩ fun i=>swp C keep ann c i fun
   | .exit _,_=>False
   | .pan v,s=>(match A.pan with | some (b,pv,u)=>b=true/\cS ⟨[(0,v)],s.b⟩ ⟨[(0,pv)],bz S u⟩ | none=>False)
   | _,s=>(match A.pan with | some (b,_,_)=>b=false | none=>True)/\vW (gS C.tbl s fn.results.toList) s A.val (bz S A.upd)
end Go.AL
end
noncomputable section
namespace Go.AL
inductive CObj where
 | box (b off len:Nat)
 | tail (n:Nat) (base:Option Nat) (cap:Nat)
 | obj (r:Nat)
 | bld (b:Nat) (g:Option Nat)
structure Om where
 e:Nat→Option CObj
 w:World
 pub:Nat→Nat→Prop
def bT:Option Nat→Option Addr
 | none=>none
 | some b=>some ⟨b,0,none⟩
def aM:Nat:=9223372036854775807
def ez (Ω:Om) (o:Option Nat) (n:Nat) (v:Value):Prop:=
 ∀id,o=some id→∃m base cap,Ω.e id=some (.tail m base cap)/\n<=m/\(n=m→v=.slice (bT base) n cap)
def lA (Ω:Om) (τ:Ty) (n k:Nat) (p:Option Addr):Prop:=
 ∃m base cap,Ω.e k=some (.tail m base cap)/\n+1<=m/\(n+1=m→∃b,base=some b/\p=some ⟨b,n *a7 τ,none⟩)
def iA (Ω:Om) (k s:Nat) (a:Option Addr) (cap:Nat):Prop:=
 ∃m base c,Ω.e k=some (.tail m base c)/\s<=m/\(s=m→a=bT base/\cap=c)
def uq (Ω:Om) (k s b:Nat):Prop:=
 ∃m base c,Ω.e k=some (.tail m base c)/\s<=m/\(s=m→base=some b)
inductive V (Ω:Om):AV→Value→Prop
 | undef (v:Value):V Ω .undef v
 | int (k:IntKind) (n:Int):k.min<=n→n<=k.max→V Ω (.int k n) (.int k n)
 | bool (b:Bool):V Ω (.bool b) (.bool b)
 | str (s:Str):s.length<=aM→V Ω (.str s) (.string ⟨s.toArray⟩)
 | lstNil (τ:Ty) (o:Option Nat):ez Ω o 0 (.slice none 0 0)→V Ω (.lst τ [] o) (.slice none 0 0)
 | lst (τ:Ty) (xs:List (den τ)) (o:Option Nat) (b off cap:Nat) (vals:Nat→Nat→Value) :
   xs.length<=cap→cap<=aM→ez Ω o xs.length (.slice (some ⟨b,off,none⟩) xs.length cap)→
   (∀(i:Nat) (x:den τ),xs[i]?=some x→∀(j:Nat) (c:AV),(cells τ x)[j]?=some c→
    Ω.pub b (off+(i *a7 τ+j))/\Ω.w.cell? ⟨b,off+(i *a7 τ+j),none⟩=some (vals i j))→
   (∀(i:Nat) (x:den τ),xs[i]?=some x→∀(j:Nat) (c:AV),(cells τ x)[j]?=some c→V Ω c (vals i j))→
   V Ω (.lst τ xs o) (.slice (some ⟨b,off,none⟩) xs.length cap)
 | lstVoid (τ:Ty) (a:Addr):V Ω (.lst τ [] none) (.slice (some a) 0 0)
 | nils:V Ω .nils (.slice none 0 0)
 | ptr (id off b o len:Nat):Ω.e id=some (.box b o len)→V Ω (.ptr id off) (.pointer (some ⟨b,o+off,none⟩))
 | cptr (c:AV) (b off:Nat) (vals:Nat→Value) :
   (∀(j:Nat) (c':AV),(a8 c)[j]?=some c'→Ω.pub b (off+j)/\Ω.w.cell? ⟨b,off+j,none⟩=some (vals j))→
   (∀(j:Nat) (c':AV),(a8 c)[j]?=some c'→V Ω c' (vals j))→
   V Ω (.cptr c) (.pointer (some ⟨b,off,none⟩))
 | nilp:V Ω .nilp (.pointer none)
 | ptNone (n:SN):V Ω (.pt n none) (.pointer none)
 | ptSome (n:SN) (x:SD n) (v:Value):V Ω (.cptr (.st n x)) v→V Ω (.pt n (some x)) v
 | arr (id n w b len cap:Nat) (a:Option Addr):Ω.e id=some (.box b 0 len)→n *w<=len→n<=cap→cap<=aM→(a=some ⟨b,0,none⟩∨a=none/\n=0/\cap=0)→
   V Ω (.arr id n w) (.slice a n cap)
 | aptr (id i w off b o len:Nat):Ω.e id=some (.box b o len)→V Ω (.aptr id i w off) (.pointer (some ⟨b,o+(i *w+off),none⟩))
 | map (id r:Nat):Ω.e id=some (.obj r)→V Ω (.map id) (.map (some r))
 | bptr (id b:Nat) (g:Option Nat):Ω.e id=some (.bld b g)→V Ω (.bptr id) (.pointer (some ⟨b,0,none⟩))
 | iface (t:Nat) (a:AV) (v:Value):V Ω a v→V Ω (.iface t a) (.iface t v)
 | nilif:V Ω .nilif .nilIface
 | nilm:V Ω .nilm (.map none)
 | lstp (τ:Ty) (xs:List (den τ)) (k b off cap:Nat) (vals:Nat→Nat→Value) :
   xs.length+1<=cap→cap<=aM→ez Ω (some k) (xs.length+1) (.slice (some ⟨b,off,none⟩) (xs.length+1) cap)→
   (∀(i:Nat) (x:den τ),xs[i]?=some x→∀(j:Nat) (c:AV),(cells τ x)[j]?=some c→
    Ω.pub b (off+(i *a7 τ+j))/\Ω.w.cell? ⟨b,off+(i *a7 τ+j),none⟩=some (vals i j))→
   (∀(i:Nat) (x:den τ),xs[i]?=some x→∀(j:Nat) (c:AV),(cells τ x)[j]?=some c→V Ω c (vals i j))→
   V Ω (.lstp τ xs k) (.slice (some ⟨b,off,none⟩) (xs.length+1) cap)
 | tptr (τ:Ty) (n k:Nat) (p:Option Addr):lA Ω τ n k p→V Ω (.tptr τ n k) (.pointer p)
 | glst (s n k cap:Nat) (a:Option Addr):n<=cap→cap<=aM→((∃b,a=some ⟨b,0,none⟩)∨a=none/\n=0/\cap=0)→iA Ω k s a cap→V Ω (.glst s n k) (.slice a n cap)
 | gptr (k s i w off b:Nat):uq Ω k s b→V Ω (.gptr k s i w off) (.pointer (some ⟨b,i *w+off,none⟩))
 | st (n:SN) (x:SD n) (v:Value):V Ω (.agg (cells (.st n) x)) v→V Ω (.st n x) v
 | agg (cs:List AV) (vs:List Value):cs.length=vs.length→(∀(j:Nat) (c:AV) (v:Value),cs[j]?=some c→vs[j]?=some v→V Ω c v)→
   V Ω (.agg cs) (.agg vs.toArray)
 | tup (cs:List AV) (vs:List Value):cs.length=vs.length→(∀(j:Nat) (c:AV) (v:Value),cs[j]?=some c→vs[j]?=some v→V Ω c v)→
   V Ω (.tup cs) (.tuple vs.toArray)
 | fn (f:Nat) (cs:List AV) (vs:List Value):cs.length=vs.length→(∀(j:Nat) (c:AV) (v:Value),cs[j]?=some c→vs[j]?=some v→V Ω c v)→
   V Ω (.fn f cs) (.func (.func f) #[] vs.toArray)
def VL (Ω:Om) (cs:List AV) (vs:List Value):Prop:=cs.length=vs.length/\∀(j:Nat) (c:AV) (v:Value),cs[j]?=some c→vs[j]?=some v→V Ω c v
def CLe:CObj→CObj→Prop
 | .box b o l,.box b' o' l'=>b=b'/\o=o'/\l=l'
 | .tail n base cap,.tail n' base' cap'=>n<=n'/\(n=n'→base=base'/\cap=cap')
 | .obj r,.obj r'=>r=r'
 | .bld b _,.bld b' _=>b=b'
 | _,_=>False
theorem CLe.refl (c:CObj):CLe c c:=by cases c <;> simp [CLe]
theorem CLe.box {b o l:Nat} {c:CObj} (h:CLe (.box b o l) c):c=.box b o l:=by
 cases c <;> simp [CLe] at h
 obtain ⟨rfl,rfl,rfl⟩:=h
 rfl
theorem CLe.obj {r:Nat} {c:CObj} (h:CLe (.obj r) c):c=.obj r:=by
 cases c <;> simp [CLe] at h
 subst h
 rfl
theorem CLe.bld {b:Nat} {g:Option Nat} {c:CObj} (h:CLe (.bld b g) c):∃g',c=.bld b g':=by
 cases c <;> simp [CLe] at h
 subst h
 exact ⟨_,rfl⟩
theorem CLe.trans {a b c:CObj} (h:CLe a b) (k:CLe b c):CLe a c:=by
 cases a <;> cases b <;> cases c <;> simp_all [CLe]
 rename_i n1 b1 c1 n2 b2 c2 n3 b3 c3
 obtain ⟨h1,h2⟩:=h
 obtain ⟨k1,k2⟩:=k
 refine ⟨by omega,fun e=>?_⟩
 have e1:n1=n2:=by omega
 have e2:n2=n3:=by omega
 obtain ⟨h3,h4⟩:=h2 e1
 obtain ⟨k3,k4⟩:=k2 e2
 exact ⟨h3.trans k3,h4.trans k4⟩
structure Ext (Ω Ω':Om):Prop where
 e:∀id c,Ω.e id=some c→∃c',Ω'.e id=some c'/\CLe c c'
 pub:∀b o,Ω.pub b o→Ω'.pub b o
 cell:∀b o,Ω.pub b o→Ω'.w.cell? ⟨b,o,none⟩=Ω.w.cell? ⟨b,o,none⟩
theorem Ext.refl (Ω:Om):Ext Ω Ω:=⟨fun _ c h=>⟨c,h,CLe.refl c⟩,fun _ _ h=>h,fun _ _ _=>rfl⟩
theorem ez.ext {Ω Ω':Om} (h:Ext Ω Ω') {o:Option Nat} {n:Nat} {v:Value} (t:ez Ω o n v):ez Ω' o n v:=by
 intro id hid
 obtain ⟨m,base,cap,he,hle,hv⟩:=t id hid
 obtain ⟨c',hc',hl⟩:=h.e id _ he
 cases c' with
 | box b o l=>simp [CLe] at hl
 | obj r=>simp [CLe] at hl
 | bld b g=>simp [CLe] at hl
 | tail m' base' cap'=>
  obtain ⟨h1,h2⟩:=hl
  refine ⟨m',base',cap',hc',by omega,fun e=>?_⟩
  obtain ⟨e1,e2⟩:=h2 (by omega)
  rw [hv (by omega),e1,e2]
theorem lA.ext {Ω Ω':Om} (h:Ext Ω Ω') {τ:Ty} {n k:Nat} {p:Option Addr} (t:lA Ω τ n k p):lA Ω' τ n k p:=by
 obtain ⟨m,base,cap,he,hle,hv⟩:=t
 obtain ⟨c',hc',hl⟩:=h.e k _ he
 cases c' with
 | box b o l=>simp [CLe] at hl
 | obj r=>simp [CLe] at hl
 | bld b g=>simp [CLe] at hl
 | tail m' base' cap'=>
  obtain ⟨h1,h2⟩:=hl
  refine ⟨m',base',cap',hc',by omega,fun e=>?_⟩
  obtain ⟨e1,e2⟩:=h2 (by omega)
  rw [←e1]
  exact hv (by omega)
theorem iA.ext {Ω Ω':Om} (h:Ext Ω Ω') {k s:Nat} {a:Option Addr} {cap:Nat} (t:iA Ω k s a cap):iA Ω' k s a cap:=by
 obtain ⟨m,base,c,he,hle,hv⟩:=t
 obtain ⟨c',hc',hl⟩:=h.e k _ he
 cases c' with
 | box b o l=>simp [CLe] at hl
 | obj r=>simp [CLe] at hl
 | bld b g=>simp [CLe] at hl
 | tail m' base' cap'=>
  obtain ⟨h1,h2⟩:=hl
  refine ⟨m',base',cap',hc',by omega,fun e=>?_⟩
  obtain ⟨e1,e2⟩:=h2 (by omega)
  obtain ⟨g1,g2⟩:=hv (by omega)
  exact ⟨by rw [g1,e1],by rw [g2,e2]⟩
theorem uq.ext {Ω Ω':Om} (h:Ext Ω Ω') {k s b:Nat} (t:uq Ω k s b):uq Ω' k s b:=by
 obtain ⟨m,base,c,he,hle,hv⟩:=t
 obtain ⟨c',hc',hl⟩:=h.e k _ he
 cases c' with
 | box b o l=>simp [CLe] at hl
 | obj r=>simp [CLe] at hl
 | bld b g=>simp [CLe] at hl
 | tail m' base' cap'=>
  obtain ⟨h1,h2⟩:=hl
  refine ⟨m',base',cap',hc',by omega,fun e=>?_⟩
  obtain ⟨e1,e2⟩:=h2 (by omega)
  rw [←e1]
  exact hv (by omega)
theorem V.ext {Ω Ω':Om} (h:Ext Ω Ω') {a:AV} {v:Value} (hv:V Ω a v):V Ω' a v:=by
 induction hv with
 | undef v=>exact .undef v
 | int k n h1 h2=>exact .int k n h1 h2
 | bool b=>exact .bool b
 | str s hs=>exact .str s hs
 | lstNil τ o ht=>exact .lstNil τ o (ht.ext h)
 | lstVoid τ a=>exact .lstVoid τ a
 | lst τ xs o b off cap vals h1 h2 h3 h4 h5 ih=>
  exact .lst τ xs o b off cap vals h1 h2 (h3.ext h)
   (fun i x hx j c hc=>⟨h.pub _ _ (h4 i x hx j c hc).1,(h.cell _ _ (h4 i x hx j c hc).1).trans (h4 i x hx j c hc).2⟩) ih
 | nils=>exact .nils
 | ptr id off b o len he=>
  obtain ⟨c',hc',hl⟩:=h.e id _ he
  exact .ptr id off b o len (by rw [hc',hl.box])
 | ptNone n=>exact .ptNone n
 | ptSome n x v _ ih=>exact .ptSome n x v ih
 | arr id n w b len cap a he h1 h2 h3 h4=>
  obtain ⟨c',hc',hl⟩:=h.e id _ he
  exact .arr id n w b len cap a (by rw [hc',hl.box]) h1 h2 h3 h4
 | aptr id i w off b o len he=>
  obtain ⟨c',hc',hl⟩:=h.e id _ he
  exact .aptr id i w off b o len (by rw [hc',hl.box])
 | map id r he=>
  obtain ⟨c',hc',hl⟩:=h.e id _ he
  exact .map id r (by rw [hc',hl.obj])
 | bptr id b g he=>
  obtain ⟨c',hc',hl⟩:=h.e id _ he
  obtain ⟨g',rfl⟩:=hl.bld
  exact .bptr id b g' hc'
 | iface t a v _ ih=>exact .iface t a v ih
 | nilif=>exact .nilif
 | nilm=>exact .nilm
 | lstp τ xs k b off cap vals h1 h2 h3 h4 h5 ih=>
  exact .lstp τ xs k b off cap vals h1 h2 (h3.ext h)
   (fun i x hx j c hc=>⟨h.pub _ _ (h4 i x hx j c hc).1,(h.cell _ _ (h4 i x hx j c hc).1).trans (h4 i x hx j c hc).2⟩) ih
 | tptr τ n k p hp=>exact .tptr τ n k p (hp.ext h)
 | glst s n k cap a h1 h2 h3 h4=>exact .glst s n k cap a h1 h2 h3 (h4.ext h)
 | gptr k s i w off b h1=>exact .gptr k s i w off b (h1.ext h)
 | st n x v _ ih=>exact .st n x v ih
 | cptr cs b off vals h1 h2 ih=>
  exact .cptr cs b off vals (fun j c hc=>⟨h.pub _ _ (h1 j c hc).1,(h.cell _ _ (h1 j c hc).1).trans (h1 j c hc).2⟩) ih
 | nilp=>exact .nilp
 | agg cs vs hl _ ih=>exact .agg cs vs hl ih
 | tup cs vs hl _ ih=>exact .tup cs vs hl ih
 | fn f cs vs hl _ ih=>exact .fn f cs vs hl ih
theorem VL.ext {Ω Ω':Om} (h:Ext Ω Ω') {cs:List AV} {vs:List Value} (hv:VL Ω cs vs):VL Ω' cs vs:=
 ⟨hv.1,fun j c v hc hw=>(hv.2 j c v hc hw).ext h⟩
theorem VL.nil {Ω:Om}:VL Ω [] []:=⟨rfl,fun _ _ _ h=>by simp at h⟩
theorem VL.cons {Ω:Om} {c:AV} {cs:List AV} {v:Value} {vs:List Value} (h:V Ω c v) (hs:VL Ω cs vs):VL Ω (c ::cs) (v ::vs):=by
 refine ⟨by simp [hs.1],fun j d u hd hu=>?_⟩
 cases j with
 | zero=>simp at hd hu;subst hd hu;exact h
 | succ j=>simp at hd hu;exact hs.2 j d u hd hu
theorem VL.head {Ω:Om} {c:AV} {cs:List AV} {v:Value} {vs:List Value} (h:VL Ω (c ::cs) (v ::vs)):V Ω c v:=h.2 0 c v rfl rfl
theorem VL.tail {Ω:Om} {c:AV} {cs:List AV} {v:Value} {vs:List Value} (h:VL Ω (c ::cs) (v ::vs)):VL Ω cs vs:=
 ⟨by have:=h.1;simp at this;exact this,fun j d u hd hu=>h.2 (j+1) d u (by simpa using hd) (by simpa using hu)⟩
theorem VL.cases {Ω:Om} {cs:List AV} {vs:List Value} (h:VL Ω cs vs) :
  (cs=[]/\vs=[])∨∃c cs' v vs',cs=c ::cs'/\vs=v ::vs'/\V Ω c v/\VL Ω cs' vs':=by
 cases cs with
 | nil=>left;exact ⟨rfl,List.eq_nil_of_length_eq_zero (by rw [←h.1];rfl)⟩
 | cons c cs=>
  cases vs with
  | nil=>exact absurd h.1 (by simp)
  | cons v vs=>exact Or.inr ⟨c,cs,v,vs,rfl,rfl,h.head,h.tail⟩
theorem VL.append {Ω:Om} {cs ds:List AV} {vs us:List Value} (h:VL Ω cs vs) (k:VL Ω ds us):VL Ω (cs++ds) (vs++us):=by
 refine ⟨by simp [h.1,k.1],fun j c v hc hv=>?_⟩
 by_cases hj:j < cs.length
 ·rw [List.getElem?_append_left hj] at hc
  rw [List.getElem?_append_left (by rw [←h.1];exact hj)] at hv
  exact h.2 j c v hc hv
 ·rw [List.getElem?_append_right (by omega)] at hc
  rw [List.getElem?_append_right (by rw [←h.1];omega),←h.1] at hv
  exact k.2 _ c v hc hv
theorem V.agg_inv {Ω:Om} {cs:List AV} {v:Value} (h:V Ω (.agg cs) v):∃vs,v=.agg vs.toArray/\VL Ω cs vs:=by
 cases h with
 | agg _ vs h1 h2=>exact ⟨vs,rfl,h1,h2⟩
theorem V.tup_inv {Ω:Om} {cs:List AV} {v:Value} (h:V Ω (.tup cs) v):∃vs,v=.tuple vs.toArray/\VL Ω cs vs:=by
 cases h with
 | tup _ vs h1 h2=>exact ⟨vs,rfl,h1,h2⟩
theorem V.of_agg {Ω:Om} {cs:List AV} {vs:List Value} (h:VL Ω cs vs):V Ω (.agg cs) (.agg vs.toArray):=.agg cs vs h.1 h.2
theorem V.of_tup {Ω:Om} {cs:List AV} {vs:List Value} (h:VL Ω cs vs):V Ω (.tup cs) (.tuple vs.toArray):=.tup cs vs h.1 h.2
theorem az (τ:Ty) (x:den τ):(cells τ x).length=a7 τ:=by
 cases τ with
 | st n=>cases n <;> rfl
 | _=>rfl
theorem mj (τ:Ty) (x:den τ):(cells τ x).all fP=true:=by
 cases τ with
 | st n=>cases n <;> rfl
 | _=>rfl
theorem aD (τ:Ty):∀xs:List (den τ),(flat τ xs).length=xs.length *a7 τ
 | []=>by simp [flat]
 | x ::xs=>by
  have:=aD τ xs
  simp only [flat,List.flatMap_cons,List.length_append,az,List.length_cons] at this ⊢
  rw [this,Nat.add_mul]
  omega
theorem fU (τ:Ty):0 < a7 τ:=by
 cases τ with
 | st n=>cases n <;> simp [a7]
 | _=>simp [a7]
theorem dD (τ:Ty):∀(xs:List (den τ)) (i:Nat) (x:den τ) (j:Nat) (c:AV),xs[i]?=some x→(cells τ x)[j]?=some c→(flat τ xs)[i *a7 τ+j]?=some c
 | [],i,x,j,c,h,_=>by simp at h
 | y ::ys,0,x,j,c,h,hc=>by
  simp at h
  subst h
  have hj:j < (cells τ y).length:=by
   rcases Nat.lt_or_ge j (cells τ y).length with k | k
   ·exact k
   ·rw [List.getElem?_eq_none k] at hc;cases hc
  simp only [flat,List.flatMap_cons,Nat.zero_mul,Nat.zero_add]
  rw [List.getElem?_append_left hj]
  exact hc
 | y ::ys,i+1,x,j,c,h,hc=>by
  simp at h
  have:=dD τ ys i x j c h hc
  simp only [flat,List.flatMap_cons] at this ⊢
  rw [List.getElem?_append_right (by rw [az,Nat.add_mul];omega),az]
  rw [show (i+1) *a7 τ+j - a7 τ=i *a7 τ+j from by rw [Nat.add_mul];omega]
  exact this
theorem bB (τ:Ty) (xs ys:List (den τ)):flat τ (xs++ys)=flat τ xs++flat τ ys:=by simp [flat]
theorem od (τ:Ty) (xs:List (den τ)):(flat τ xs).all fP=true:=by
 simp only [flat,List.all_flatMap]
 exact List.all_eq_true.2 fun x _=>mj τ x
theorem V.parts {Ω:Om} {a:AV} {v:Value} (h:V Ω a v) (hl:(a8 a).all fP=true):VL Ω (a8 a) v.cells.toList:=by
 cases h with
 | agg cs vs h1 h2=>exact ⟨h1,h2⟩
 | undef v=>simp [a8,fP] at hl
 | tup cs vs h1 h2=>simp [a8,fP] at hl
 | int k n h1 h2=>exact VL.cons (.int k n h1 h2) .nil
 | bool b=>exact VL.cons (.bool b) .nil
 | str s hs=>exact VL.cons (.str s hs) .nil
 | lstNil τ o ht=>exact VL.cons (.lstNil τ o ht) .nil
 | lstVoid τ a=>exact VL.cons (.lstVoid τ a) .nil
 | lst τ xs o b off cap vals h1 h2 h3 h4 h5=>exact VL.cons (.lst τ xs o b off cap vals h1 h2 h3 h4 h5) .nil
 | nils=>exact VL.cons .nils .nil
 | ptr id off b o len hb=>exact VL.cons (.ptr id off b o len hb) .nil
 | ptNone n=>exact VL.cons (.ptNone n) .nil
 | ptSome n x v hv=>
  have hv':=hv
  cases hv with
  | cptr _ b off vals h1 h2=>exact VL.cons (.ptSome n x _ hv') .nil
 | arr id n w b len cap a h1 h2 h3 h4 h5=>exact VL.cons (.arr id n w b len cap a h1 h2 h3 h4 h5) .nil
 | aptr id i w off b o len h1=>exact VL.cons (.aptr id i w off b o len h1) .nil
 | map id r h1=>exact VL.cons (.map id r h1) .nil
 | bptr id b g h1=>exact VL.cons (.bptr id b g h1) .nil
 | iface t a v hv=>exact VL.cons (.iface t a v hv) .nil
 | nilif=>exact VL.cons .nilif .nil
 | nilm=>exact VL.cons .nilm .nil
 | lstp τ xs k b off cap vals h1 h2 h3 h4 h5=>exact VL.cons (.lstp τ xs k b off cap vals h1 h2 h3 h4 h5) .nil
 | tptr τ n k p hp=>exact VL.cons (.tptr τ n k p hp) .nil
 | glst s n k cap a h1 h2 h3 h4=>exact VL.cons (.glst s n k cap a h1 h2 h3 h4) .nil
 | gptr k s i w off b h1=>exact VL.cons (.gptr k s i w off b h1) .nil
 | cptr cs b off vals h1 h2=>exact VL.cons (.cptr cs b off vals h1 h2) .nil
 | st n x v h1=>
  obtain ⟨vs,rfl,hv⟩:=h1.agg_inv
  exact hv
 | nilp=>exact VL.cons .nilp .nil
 | fn f cs vs h1 h2=>exact VL.cons (.fn f cs vs h1 h2) .nil
theorem V.leaf_one {Ω:Om} {a:AV} {v:Value} (h:V Ω a v) (hl:fP a=true):v.oneCell'=true:=by
 cases h with
 | ptSome n x v hv=>cases hv;rfl
 | undef v=>cases hl
 | agg cs vs h1 h2=>cases hl
 | tup cs vs h1 h2=>cases hl
 | st n x v h1=>cases hl
 | _=>rfl
theorem VL.leaf_one {Ω:Om} {cs:List AV} {vs:List Value} (h:VL Ω cs vs) (hl:cs.all fP=true):∀v∈vs,v.oneCell'=true:=by
 intro v hv
 obtain ⟨j,hj,e⟩:=List.mem_iff_getElem.1 hv
 have hj':j < cs.length:=by rw [h.1];exact hj
 have hc:cs[j]?=some cs[j]:=List.getElem?_eq_getElem hj'
 have hw:vs[j]?=some v:=by rw [List.getElem?_eq_getElem hj,e]
 exact (h.2 j _ _ hc hw).leaf_one (List.all_eq_true.1 hl _ (List.getElem_mem hj'))
end Go.AL
end
noncomputable section
namespace Go.AL
structure AS where
 T:Nat→AV
 B:Nat→Option SObj
def St.abs (s:St):AS:=⟨aJ s.t,ah s.b⟩
def occ:CObj→Nat→Nat→Prop
 | .box b off len,b',o=>b'=b/\off<=o/\o < off+len
 | .tail _ base _,b',_=>base=some b'
 | .obj r,b',_=>b'=r
 | .bld b g,b',_=>b'=b∨g=some b'
class Tabs where
 tab:Nat→Nat→Value→Prop
 obj:Nat→Obj→Prop
abbrev ph:Tabs:=⟨fun _ _ _=>False,fun _ _=>False⟩
variable [Tabs]
def iL (e:Nat→Option CObj) (b o:Nat):Prop:=∃id c,e id=some c/\occ c b o
def gT (w:World) (pub:Nat→Nat→Prop) (e:Nat→Option CObj):Prop:=
 (∀b o v,Tabs.tab b o v→pub b o/\w.cell? ⟨b,o,none⟩=some v)/\∀b x,Tabs.obj b x→w.heap[b]?=some x/\∀o,¬iL e b o
structure Fr where
 w0:World
 pub0:Nat→Nat→Prop
 n:Nat
 e0:Nat→Option CObj
 dom0:∀id c,e0 id=some c→b9 id=true
 ds:List Deferred
 tab0:gT w0 pub0 e0
def Fr.br (F:Fr) (b o:Nat):Prop:=iL F.e0 b o
def Fr.own (F:Fr) (b o:Nat):Prop:=F.w0.heap.size<=b∨F.br b o
structure MapOK (Ω:Om) (κ τ:Ty) (m:List (den κ × den τ)) (es:Array MapEntry) (clock:Nat):Prop where
 size:es.size=m.length
 ent:∀(i:Nat) (e:MapEntry) (x:den κ × den τ),es[i]?=some e→m[i]?=some x→V Ω (inj κ x.1) e.key/\V Ω (inj τ x.2) e.val
 keys:(m.map (·.1)).Nodup
 born:∀(i:Nat) (e:MapEntry),es[i]?=some e→e.born < clock
 rise:∀(i j:Nat) (e f:MapEntry),es[i]?=some e→es[j]?=some f→i < j→e.born < f.born
 idx:∀(i:Nat) (e:MapEntry),es[i]?=some e→e.born=i
 top:clock=es.size
def oe (w:World) (t u b:Nat) (g:Option Nat) (l:Str):Prop:=
 ∃p v,w.heap[b]?=some (.cells #[p,v] t (0,0))/\(p=.pointer none∨p=.pointer (some ⟨b,0,none⟩))/\v.ownBlock=g/\g≠some b/\w.ownsRowF 0 u 1 v l.length (Lib.byteCells l)/\(l=[]→v=.slice none 0 0)
theorem oe.congr {w w':World} {t u b:Nat} {g:Option Nat} {l:Str} (h:oe w t u b g l) (hb:∀b',(b'=b∨g=some b')→w'.heap[b']?=w.heap[b']?):oe w' t u b g l:=by
 obtain ⟨p,v,h1,h2,h3,h4,⟨h5,h6⟩,h7⟩:=h
 refine ⟨p,v,by rw [hb b (.inl rfl),h1],h2,h3,h4,⟨h5,?_⟩,h7⟩
 rcases h6 with h6 | ⟨g',cap,cur,fz,rfl,k1,k2,k3⟩
 ·exact .inl h6
 ·refine .inr ⟨g',cap,cur,fz,rfl,k1,?_,k3⟩
  rw [hb g' (.inr (by rw [←h3];rfl)),k2]
theorem oe.lt {w:World} {t u b:Nat} {g:Option Nat} {l:Str} (h:oe w t u b g l) {b':Nat} (hb:b'=b∨g=some b'):b' < w.heap.size:=by
 obtain ⟨p,v,h1,h2,h3,h4,h5,_⟩:=h
 rcases hb with rfl | hb
 ·exact (Array.getElem?_eq_some_iff.1 h1).1
 ·exact (h5.lt b' (by rw [h3,hb])).2
def aP (Ω:Om) (own:Nat→Nat→Prop) (id:Nat):SObj→Prop
 | .box c=>∃b off,Ω.e id=some (.box b off (a8 c).length)/\∀(j:Nat) (c':AV),(a8 c)[j]?=some c'→
   own b (off+j)/\¬Ω.pub b (off+j)/\Ω.w.frozen? ⟨b,off+j,none⟩=false/\∃v,Ω.w.cell? ⟨b,off+j,none⟩=some v/\V Ω c' v
 | .tail τ n=>∃base cap,Ω.e id=some (.tail n base cap)/\n<=cap/\cap<=aM/\
   (base=none→cap=0)/\
   ∀b,base=some b→(∀o,own b o)/\∃vs ty fz,Ω.w.heap[b]?=some (.cells vs ty fz)/\fz.2=0/\cap *a7 τ<=vs.size/\∀o,n *a7 τ<=o→¬Ω.pub b o
 | .map κ τ m=>∃r,Ω.e id=some (.obj r)/\(∀o,own r o)/\∃es clock,Ω.w.heap[r]?=some (.map es clock)/\MapOK Ω κ τ m es clock
 | .tailp τ n x=>∃b cap,Ω.e id=some (.tail (n+1) (some b) cap)/\n+1<=cap/\cap<=aM/\(∀o,own b o)/\
   (∃vs ty fz,Ω.w.heap[b]?=some (.cells vs ty fz)/\fz.2=0/\cap *a7 τ<=vs.size)/\(∀o,n *a7 τ<=o→¬Ω.pub b o)/\
   ∀(j:Nat) (c:AV),(cells τ x)[j]?=some c→∃v,Ω.w.cell? ⟨b,n *a7 τ+j,none⟩=some v/\V Ω c v
 | .grow τ s xs=>∃base cap,Ω.e id=some (.tail s base cap)/\xs.length<=cap/\cap<=aM/\(base=none→cap=0)/\
   ∀b,base=some b→(∀o,own b o)/\(∃vs ty fz,Ω.w.heap[b]?=some (.cells vs ty fz)/\fz.2=0/\cap *a7 τ<=vs.size)/\(∀o,¬Ω.pub b o)/\
   ∀(j:Nat) (c:AV),(flat τ xs)[j]?=some c→∃v,Ω.w.cell? ⟨b,j,none⟩=some v/\V Ω c v
 | .bld t u l=>∃b g,Ω.e id=some (.bld b g)/\(∀b',(b'=b∨g=some b')→∀o,own b' o/\¬Ω.pub b' o)/\oe Ω.w t u b g l
structure FrameOK (F:Fr) (Ω:Om):Prop where
 os:Ω.w.os=F.w0.os
 tape:Ω.w.tape=F.w0.tape
 output:Ω.w.output=F.w0.output
 size:F.w0.heap.size<=Ω.w.heap.size
 block:∀b,b < F.w0.heap.size→(∀o,¬F.br b o)→Ω.w.heap[b]?=F.w0.heap[b]?
 cell:∀b o,b < F.w0.heap.size→¬F.br b o→Ω.w.cell? ⟨b,o,none⟩=F.w0.cell? ⟨b,o,none⟩
 kind:∀b,b < F.w0.heap.size→¬(∀o,F.br b o)→Ω.w.shape? b=F.w0.shape? b/\∀o,Ω.w.frozen? ⟨b,o,none⟩=F.w0.frozen? ⟨b,o,none⟩
 pub:∀b o,Ω.pub b o→F.pub0 b o∨F.own b o
 old:∀b o,F.pub0 b o→Ω.pub b o
 pcell:∀b o,F.pub0 b o→Ω.w.cell? ⟨b,o,none⟩=F.w0.cell? ⟨b,o,none⟩
structure Holds (F:Fr) (s:AS) (a:Act) (Ω:Om):Prop where
 tmps:∀i,V Ω (s.T i) (a.tmps.getD i undef)
 size:a.tmps.size=F.n
 defers:a.defers=F.ds
 slots:∀id o,s.B id=some o→aP Ω F.own id o
 dom:∀id,s.B id=none→Ω.e id=none
 inj:∀i j c d b o,Ω.e i=some c→Ω.e j=some d→occ c b o→occ d b o→i=j
 pubok:∀b o,Ω.pub b o→∃v,Ω.w.cell? ⟨b,o,none⟩=some v
 keep:∀id c,F.e0 id=some c→∃c',Ω.e id=some c'/\CLe c c'
 frame:FrameOK F Ω
def aQ (T:Nat→AV) (d:Option Nat) (v:AV):Nat→AV:=
 match d with
 | some d=>fun i=>if d=i then v else T i
 | none=>T
theorem Holds.step {F:Fr} {s:AS} {a:Act} {Ω Ω':Om} {B':Nat→Option SObj} {dst:Option Nat} {val:AV} {v:Value}
  (h:Holds F s a Ω) (hx:Ext Ω Ω') (hv:V Ω' val v) (hd:∀d,dst=some d→d < F.n)
  (hs:∀id o,B' id=some o→aP Ω' F.own id o) (hdom:∀id,B' id=none→Ω'.e id=none)
  (hinj:∀i j c d b o,Ω'.e i=some c→Ω'.e j=some d→occ c b o→occ d b o→i=j)
  (hp:∀b o,Ω'.pub b o→∃v,Ω'.w.cell? ⟨b,o,none⟩=some v) (hf:FrameOK F Ω') :
  Holds F ⟨aQ s.T dst val,B'⟩ (a.put dst v) Ω':=by
 refine ⟨fun i=>?_,?_,?_,hs,hdom,hinj,hp,fun id c hc=>let ⟨c1,h1,l1⟩:=h.keep id c hc;let ⟨c2,h2,l2⟩:=hx.e id c1 h1;⟨c2,h2,l1.trans l2⟩,hf⟩
 ·cases dst with
  | none=>exact (h.tmps i).ext hx
  | some d=>
   simp only [aQ,Act.put]
   have hdn:=hd d rfl
   by_cases hi:d=i
   ·subst hi
    rw [if_pos rfl]
    have:(a.tmps.setIfInBounds d v).getD d undef=v:=by
     simp [Array.getD_eq_getD_getElem?,h.size,hdn]
    rw [this]
    exact hv
   ·rw [if_neg hi]
    have:(a.tmps.setIfInBounds d v).getD i undef=a.tmps.getD i undef:=by
     simp [Array.getD_eq_getD_getElem?,hi]
    rw [this]
    exact (h.tmps i).ext hx
 ·cases dst <;> simp [Act.put,h.size]
 ·cases dst <;> simp [Act.put,h.defers]
theorem Holds.pure {F:Fr} {s:AS} {a:Act} {Ω:Om} {dst:Option Nat} {val:AV} {v:Value}
  (h:Holds F s a Ω) (hv:V Ω val v) (hd:∀d,dst=some d→d < F.n):Holds F ⟨aQ s.T dst val,s.B⟩ (a.put dst v) Ω:=
 h.step (Ext.refl Ω) hv hd h.slots h.dom h.inj h.pubok h.frame
theorem b6 {w:World} {b:Nat} {o:Obj} (h:w.heap[b]?=some o):b < w.heap.size:=by
 rcases Nat.lt_or_ge b w.heap.size with k | k
 ·exact k
 ·rw [Array.getElem?_eq_none k] at h;cases h
theorem aC {w:World} {b o:Nat} {v:Value} (h:w.cell? ⟨b,o,none⟩=some v):b < w.heap.size:=World.block_lt_of_cell? w ⟨b,o,none⟩ h
theorem ab {w w':World} {b:Nat} (h:w'.heap[b]?=w.heap[b]?) (o:Nat):w'.cell? ⟨b,o,none⟩=w.cell? ⟨b,o,none⟩:=by
 simp [World.cell?,h]
theorem ax {w w':World} {b:Nat} (h:w'.heap[b]?=w.heap[b]?) (o:Nat):w'.frozen? ⟨b,o,none⟩=w.frozen? ⟨b,o,none⟩:=by
 simp [World.frozen?,h]
theorem aH {w w':World} {b:Nat} (h:w'.heap[b]?=w.heap[b]?):w'.shape? b=w.shape? b:=by
 simp [World.shape?,h]
theorem ae {w:World} {b:Nat} {vs:Array Value} {ty:Nat} {fz:Nat × Nat} (h:w.heap[b]?=some (.cells vs ty fz)) (o:Nat) :
  w.cell? ⟨b,o,none⟩=vs[o]?:=by
 simp [World.cell?,h]
theorem cU {w:World} {b:Nat} {vs:Array Value} {ty:Nat} (h:w.heap[b]?=some (.cells vs ty (0,0))) (o:Nat) :
  w.frozen? ⟨b,o,none⟩=false:=by
 simp [World.frozen?,h]
theorem Holds.blk {F:Fr} {s:AS} {a:Act} {Ω:Om} (h:Holds F s a Ω) {id b o:Nat} {c:CObj} (hc:Ω.e id=some c) (hb:occ c b o):b < Ω.w.heap.size:=by
 cases hB:s.B id with
 | none=>rw [h.dom id hB] at hc;cases hc
 | some ob=>
  have hs:=h.slots id ob hB
  cases ob with
  | box x=>
   obtain ⟨b',off,he,hh⟩:=hs
   rw [he] at hc
   simp only [Xs] at hc
   subst hc
   obtain ⟨rfl,h1,h2⟩:=hb
   have hj:o - off < (a8 x).length:=by omega
   obtain ⟨_,_,_,v,hv,_⟩:=hh (o - off) _ (List.getElem?_eq_getElem hj)
   exact aC hv
  | tail τ n=>
   obtain ⟨base,cap,he,_,_,_,hb'⟩:=hs
   rw [he] at hc
   simp only [Xs] at hc
   subst hc
   obtain ⟨_,vs,ty,fz,hh,_⟩:=hb' b hb
   exact b6 hh
  | map κ τ m=>
   obtain ⟨r,he,_,es,clock,hh,_⟩:=hs
   rw [he] at hc
   simp only [Xs] at hc
   subst hc
   have:b=r:=hb
   subst this
   exact b6 hh
  | bld t u l=>
   obtain ⟨b0,g,he,_,hh⟩:=hs
   rw [he] at hc
   simp only [Xs] at hc
   subst hc
   exact hh.lt hb
  | tailp τ n x=>
   obtain ⟨b0,cap,he,_,_,_,⟨vs,ty,fz,hh,_⟩,_⟩:=hs
   rw [he] at hc
   simp only [Xs] at hc
   subst hc
   have:b0=b:=by simpa [occ] using hb
   subst this
   exact b6 hh
  | grow τ n xs=>
   obtain ⟨base,cap,he,_,_,_,hb'⟩:=hs
   rw [he] at hc
   simp only [Xs] at hc
   subst hc
   obtain ⟨_,⟨vs,ty,fz,hh,_⟩,_⟩:=hb' b hb
   exact b6 hh
def gJ (Ω Ω':Om):CObj→Prop
 | .box b off len=>∀o,off<=o→o < off+len→Ω'.w.cell? ⟨b,o,none⟩=Ω.w.cell? ⟨b,o,none⟩/\Ω'.w.frozen? ⟨b,o,none⟩=Ω.w.frozen? ⟨b,o,none⟩/\(Ω'.pub b o→Ω.pub b o)
 | .tail _ base _=>∀b,base=some b→Ω'.w.heap[b]?=Ω.w.heap[b]?/\∀o,Ω'.pub b o→Ω.pub b o
 | .obj r=>Ω'.w.heap[r]?=Ω.w.heap[r]?
 | .bld b g=>∀b',(b'=b∨g=some b')→Ω'.w.heap[b']?=Ω.w.heap[b']?/\∀o,Ω'.pub b' o→Ω.pub b' o
theorem gJ.of_blocks {Ω Ω':Om} {c:CObj} (h:∀b o,occ c b o→Ω'.w.heap[b]?=Ω.w.heap[b]?/\∀o,Ω'.pub b o→Ω.pub b o):gJ Ω Ω' c:=by
 cases c with
 | box b off len=>
  intro o h1 h2
  obtain ⟨k1,k2⟩:=h b o ⟨rfl,h1,h2⟩
  exact ⟨ab k1 o,ax k1 o,k2 o⟩
 | tail n base cap=>exact fun b hb=>h b 0 hb
 | obj r=>exact (h r 0 rfl).1
 | bld b g=>exact fun b' hb=>h b' 0 hb
theorem MapOK.ext {Ω Ω':Om} (hx:Ext Ω Ω') {κ τ:Ty} {m:List (den κ × den τ)} {es:Array MapEntry} {clock:Nat} (h:MapOK Ω κ τ m es clock):MapOK Ω' κ τ m es clock:=
 ⟨h.size,fun i e x he hx'=>⟨(h.ent i e x he hx').1.ext hx,(h.ent i e x he hx').2.ext hx⟩,h.keys,h.born,h.rise,h.idx,h.top⟩
theorem aP.keep {Ω Ω':Om} {own:Nat→Nat→Prop} {id:Nat} {o:SObj} (h:aP Ω own id o) (hx:Ext Ω Ω') (he:Ω'.e id=Ω.e id)
  (hk:∀c,Ω.e id=some c→gJ Ω Ω' c):aP Ω' own id o:=by
 cases o with
 | box c=>
  obtain ⟨b,off,h1,h2⟩:=h
  refine ⟨b,off,by rw [he,h1],fun j c' hc=>?_⟩
  obtain ⟨q1,q2,q3,v,q4,q5⟩:=h2 j c' hc
  have hj:j < (a8 c).length:=by
   rcases Nat.lt_or_ge j (a8 c).length with k | k
   ·exact k
   ·rw [List.getElem?_eq_none k] at hc;cases hc
  obtain ⟨k1,k2,k3⟩:=hk _ h1 (off+j) (by omega) (by omega)
  exact ⟨q1,fun hp=>q2 (k3 hp),by rw [k2,q3],v,by rw [k1,q4],q5.ext hx⟩
 | tail τ n=>
  obtain ⟨base,cap,h1,h2,h3,h4,h5⟩:=h
  refine ⟨base,cap,by rw [he,h1],h2,h3,h4,fun b hbb=>?_⟩
  obtain ⟨o1,vs,ty,fz,o2,of,o3,o4⟩:=h5 b hbb
  obtain ⟨k1,k2⟩:=hk _ h1 b hbb
  exact ⟨o1,vs,ty,fz,by rw [k1,o2],of,o3,fun o ho hp=>o4 o ho (k2 o hp)⟩
 | map κ τ m=>
  obtain ⟨r,h1,h2,es,clock,h3,h4⟩:=h
  have k1:Ω'.w.heap[r]?=Ω.w.heap[r]?:=hk _ h1
  exact ⟨r,by rw [he,h1],h2,es,clock,by rw [k1,h3],h4.ext hx⟩
 | bld t u l=>
  obtain ⟨b,g,h1,h2,h3⟩:=h
  exact ⟨b,g,by rw [he,h1],fun b' hb o=>⟨(h2 b' hb o).1,fun hp=>(h2 b' hb o).2 ((hk _ h1 b' hb).2 o hp)⟩,h3.congr fun b' hb=>(hk _ h1 b' hb).1⟩
 | tailp τ n x=>
  obtain ⟨b,cap,h1,h2,h3,h4,⟨vs,ty,fz,o2,of,o3⟩,h6,h7⟩:=h
  obtain ⟨k1,k2⟩:=hk _ h1 b rfl
  refine ⟨b,cap,by rw [he,h1],h2,h3,h4,⟨vs,ty,fz,by rw [k1,o2],of,o3⟩,fun o ho hp=>h6 o ho (k2 o hp),fun j c hc=>?_⟩
  obtain ⟨v,g1,g2⟩:=h7 j c hc
  exact ⟨v,by rw [ab k1,g1],g2.ext hx⟩
 | grow τ n xs=>
  obtain ⟨base,cap,h1,h2,h3,h4,h5⟩:=h
  refine ⟨base,cap,by rw [he,h1],h2,h3,h4,fun b hbb=>?_⟩
  obtain ⟨o1,⟨vs,ty,fz,o2,of,o3⟩,h6,h7⟩:=h5 b hbb
  obtain ⟨k1,k2⟩:=hk _ h1 b hbb
  refine ⟨o1,⟨vs,ty,fz,by rw [k1,o2],of,o3⟩,fun o hp=>h6 o (k2 o hp),fun j c hc=>?_⟩
  obtain ⟨v,g1,g2⟩:=h7 j c hc
  exact ⟨v,by rw [ab k1,g1],g2.ext hx⟩
theorem Holds.drew {F:Fr} {s:AS} {a:Act} {Ω:Om} (h:Holds F s a Ω):Holds F s a ⟨Ω.e,Ω.w.drew,Ω.pub⟩:=by
 have hx:Ext Ω ⟨Ω.e,Ω.w.drew,Ω.pub⟩:=⟨fun _ c hc=>⟨c,hc,CLe.refl c⟩,fun _ _ p=>p,fun _ _ _=>rfl⟩
 exact ⟨fun i=>(h.tmps i).ext hx,h.size,h.defers,fun id o ho=>(h.slots id o ho).keep hx rfl (fun _ _=>gJ.of_blocks fun _ _ _=>⟨rfl,fun _ p=>p⟩),h.dom,h.inj,h.pubok,h.keep,
  ⟨h.frame.os,h.frame.tape,h.frame.output,h.frame.size,h.frame.block,h.frame.cell,h.frame.kind,h.frame.pub,h.frame.old,h.frame.pcell⟩⟩
def au (P:Program):TI→TypeDesc→Bool
 | .int k,.int k'=>decide (k=k')
 | .bool,.bool=>true
 | .str,.string=>true
 | .slice e,.slice e'=>Nat.beq e e'
 | .ptr e,.pointer e'=>Nat.beq e e'
 | .map k e,.map k' e'=>Nat.beq k k' && Nat.beq e e'
 | .strct _ fs,.struct fields=>
  (decide ((fields.toList.map fun f=>(f.offset,f.type))=fs)) && fields.toList.all fun f=>(match P.info? f.type with | some i=>!Nat.beq i.size 0 | none=>false) && !(f.name == "_")
 | .iface,.interface _=>true
 | .arr e n,.array n' e'=>Nat.beq e e' && Nat.beq n n'
 | .other,d=>match d with | .struct _ | .array .. | .interface _=>false | _=>true
 | _,_=>false
def rY:Value→Bool
 | .agg _=>true
 | _=>false
structure TRok (P:Program) (t:Nat) (r:TR):Prop where
 info:∃i z,P.info? t=some i/\i.size=r.size/\i.bytes=r.bytes/\i.zero=some z/\z.cells.toList.map bc=r.zero
 zlen:r.zero.length=r.size
 bpos:0 < r.size→0 < r.bytes
 desc:∃d,P.underlying t=some d/\au P r.ti d=true
 ty:∀τ,r.ty=some τ→a7 τ=r.size/\xt τ=r.isAgg
 zagg:∀i z,P.info? t=some i→i.zero=some z→rY z=r.isAgg
 eqs:∀fs,r.ti=.strct true fs→P.stoodInHeld t=false/\P.eqGuardType P.depth t=false
theorem TRok.pos {P:Program} {t:Nat} {r:TR} (h:TRok P t r) {τ:Ty} (hτ:r.ty=some τ):0 < r.size:=by rw [←(h.ty τ hτ).1];exact fU τ
theorem TRok.bps {P:Program} {t:Nat} {r:TR} (h:TRok P t r) {τ:Ty} (hτ:r.ty=some τ):0 < r.bytes:=h.bpos (h.pos hτ)
def aE (P:Program) (tbl:List (Nat × TR)):Prop:=∀t r,aq tbl t=some r→TRok P t r
theorem ur (k:IntKind) (n:Int) (h:okC k n=true):k.min<=n/\n<=k.max:=by
 cases n with
 | ofNat m=>
  simp only [okC,Nat.ble_eq] at h
  cases k <;> simp only [xu,IntKind.min,IntKind.max,IntKind.signed,IntKind.bits] at h ⊢ <;> constructor <;> simp <;> omega
 | negSucc m=>
  cases k <;> simp only [okC,tx,Nat.ble_eq,if_true,if_false,Bool.false_eq_true,xu,IntKind.min,IntKind.max,IntKind.signed,IntKind.bits] at h ⊢ <;> (try exact h.elim) <;> constructor <;> simp <;> omega
theorem fx {α:Type}:∀(l:List α) (n:Nat),lP l n=true→l.length<=n
 | [],_,_=>by simp
 | _ ::r,0,h=>by simp [lP] at h
 | _ ::r,n+1,h=>by simp only [lP] at h;have:=fx r n h;simp;omega
theorem bf {α:Type}:∀(l:List α) (n:Nat),du l n=true→l.length=n
 | [],0,_=>rfl
 | [],n+1,h=>by simp [du] at h
 | _ ::r,0,h=>by simp [du] at h
 | _ ::r,n+1,h=>by simp only [du] at h;simp [bf r n h]
theorem fL {α:Type}:∀(l:List α) (n:Nat),nth l n=l[n]?
 | [],n=>by simp [nth]
 | a ::r,0=>rfl
 | a ::r,n+1=>by simp [nth,fL r n]
theorem ml (Ω:Om) (v:Value):V Ω (bc v) v:=by
 unfold bc
 split
 ·split
  ·rename_i k n h
   obtain ⟨h1,h2⟩:=ur k n h
   exact .int k n h1 h2
  ·exact .undef _
 ·exact .bool _
 ·split
  ·rename_i s h
   have hl:=fx _ _ h
   have:=V.str (Ω:=Ω) s.data.toList (by unfold aM;omega)
   simpa using this
  ·exact .undef _
 ·exact .nils
 ·exact .nilp
 ·exact .nilif
 ·exact .nilm
 ·exact .undef _
theorem xC (Ω:Om) (v:Value):V Ω (jk v) v:=by
 unfold jk
 split
 ·rename_i cs
  refine V.of_agg (vs:=cs.toList) ⟨by simp,fun j c u hc hu=>?_⟩
  rw [List.getElem?_map,hu] at hc
  simp only [Option.map_some,Xs] at hc
  subst hc
  exact ml Ω u
 ·exact ml Ω v
theorem mn (Ω:Om) (vs:List Value):VL Ω (vs.map bc) vs:=by
 refine ⟨by simp,fun j c v hc hv=>?_⟩
 rw [List.getElem?_map,hv] at hc
 simp only [Option.map_some,Xs] at hc
 subst hc
 exact ml Ω v
theorem aF {F:Fr} {s:AS} {a:Act} {Ω:Om} (h:Holds F s a Ω) (x:Operand):V Ω (opd s.T x) (a.eval x):=by
 cases x with
 | tmp t=>exact h.tmps t
 | const v=>exact xC Ω v
 | global g=>exact .undef _
 | func f=>exact .fn f [] [] rfl (fun j c v hc=>by simp at hc)
end Go.AL
end
noncomputable section
namespace Go.AL
variable [Tabs]
def aR:(Nat→Option SObj)→List (Nat × SObj)→(Nat→Option SObj)
 | B,[]=>B
 | B,(i,o) ::r=>aR (fun j=>if i=j then some o else B j) r
def AS.put (s:AS) (d:Option Nat) (e:Eff):AS:=⟨aQ s.T d e.val,aR s.B e.upd⟩
theorem af {P:Program} {o:Oper} {a:Act} {w w':World} {next:Act→World→Prop} {Q:Exit→Act→World→Prop} {v:Value}
  (h:(execOp a.eval o).run P w=.ok (.value v) w') (hn:next (a.put o.dst v) w'):o.wp P a w next Q:=by
 unfold Oper.wp
 rw [h]
 exact hn
theorem eZ {P:Program} {o:Oper} {a:Act} {w w':World} {next:Act→World→Prop} {Q:Exit→Act→World→Prop}
  (h:(execOp a.eval o).run P w=.ok .skip w') (hn:next (a.put o.dst undef) w'):o.wp P a w next Q:=by
 unfold Oper.wp
 rw [h]
 exact hn
theorem an {P:Program} {w:World} {t:Nat} {d:TypeDesc} (h:P.underlying t=some d):(underlying t).run P w=.ok d w:=by
 simp [underlying,program,Sem.run,h]
theorem mo {P:Program} {w:World} {t:Nat} {i:TypeInfo} (h:P.info? t=some i):(typeInfo t).run P w=.ok i w:=by
 simp [typeInfo,program,Sem.run,h]
theorem bF {P:Program} {w:World} {t:Nat} {i:TypeInfo} (h:P.info? t=some i):(sizeOf t).run P w=.ok i.size w:=by
 simp [sizeOf,mo h]
theorem cO {P:Program} {w:World} {t:Nat} {i:TypeInfo} {z:Value} (h:P.info? t=some i) (hz:i.zero=some z) :
  (zeroValue t).run P w=.ok z w:=by
 simp [zeroValue,mo h,hz]
structure TF (P:Program) (t:Nat) (r:TR) where
 size:∀w,(sizeOf t).run P w=.ok r.size w
 agg:∀w,(isAgg t).run P w=.ok r.isAgg w
theorem TRok.tf {P:Program} {t:Nat} {r:TR} (h:TRok P t r):TF P t r:=by
 obtain ⟨i,z,h1,h2,h3,h4,h5⟩:=h.info
 obtain ⟨d,h6,h7⟩:=h.desc
 refine ⟨fun w=>by rw [bF h1,h2],fun w=>?_⟩
 simp only [isAgg,Sem.run_bind,an h6,Result.andThen_ok]
 cases hti:r.ti <;> rw [hti] at h7 <;> cases d <;> simp [au] at h7 <;> simp [TR.isAgg,hti]
theorem kH:∀(cs:List AV) (n:Nat) (ds:List AV),iM cs n=some ds→n<=cs.length/\ds=cs.drop n
 | cs,0,ds,h=>by simp [iM] at h;simp [h]
 | [],n+1,ds,h=>by simp [iM] at h
 | c ::r,n+1,ds,h=>by
  simp only [iM] at h
  obtain ⟨h1,h2⟩:=kH r n ds h
  exact ⟨by simp;omega,by simp [h2]⟩
theorem kI:∀(cs:List AV) (n:Nat) (ds:List AV),kG cs n=some ds→n<=cs.length/\ds=cs.take n
 | cs,0,ds,h=>by simp [kG] at h;simp [←h]
 | [],n+1,ds,h=>by simp [kG] at h
 | c ::r,n+1,ds,h=>by
  simp only [kG] at h
  split at h
  ·rename_i l hl
   obtain ⟨h1,h2⟩:=kI r n l hl
   simp at h
   exact ⟨by simp;omega,by simp [←h,h2]⟩
  ·simp at h
theorem eR {cs ds:List AV} {off n:Nat} (h:sub cs off n=some ds):off+n<=cs.length/\ds=(cs.drop off).take n:=by
 unfold sub at h
 split at h
 ·rename_i l hl
  obtain ⟨h1,h2⟩:=kH _ _ _ hl
  obtain ⟨h3,h4⟩:=kI _ _ _ h
  subst h2
  simp at h3
  exact ⟨by omega,h4⟩
 ·simp at h
theorem VL.sub {Ω:Om} {cs ds:List AV} {vs:List Value} {off n:Nat} (h:VL Ω cs vs) (hs:sub cs off n=some ds) :
  VL Ω ds ((vs.drop off).take n):=by
 obtain ⟨h1,h2⟩:=eR hs
 subst h2
 refine ⟨by simp [h.1],fun j c v hc hv=>?_⟩
 rw [List.getElem?_take] at hc hv
 split at hc
 ·rename_i hj
  rw [if_pos hj,List.getElem?_drop] at hv
  rw [List.getElem?_drop] at hc
  exact h.2 _ c v hc hv
 ·simp at hc
theorem qj {P:Program} {w:World} {t:Nat} {r:TR} (ht:TF P t r) {cs:List AV} {x:AV} (ho:bZ r cs=some x) {Ω:Om}
  {b off:Nat} {vs:List Value} (hv:VL Ω cs vs) (hlen:cs.length=r.size) (hc:∀j v,vs[j]?=some v→w.cell? ⟨b,off+j,none⟩=some v) :
  ∃v,(loadVar t ⟨b,off,none⟩).run P w=.ok v w/\V Ω x v:=by
 unfold bZ at ho
 simp only [loadVar,Sem.run_bind,ht.agg,Result.andThen_ok]
 split at ho
 ·rename_i hagg
  simp at ho
  subst ho
  refine ⟨.agg vs.toArray,?_,V.of_agg hv⟩
  rw [hagg]
  simp only [if_true,Sem.run_bind,ht.size,Result.andThen_ok]
  have:=run_loadCells_list (P:=P) w ⟨b,off,none⟩ vs (fun j v hj=>by
   have:=hc j v hj
   unfold Addr.add
   split
   ·rename_i h0;subst h0;simpa using this
   ·simpa using this)
  rw [←hlen,hv.1,this]
  simp
 ·rename_i hagg
  have hagg':r.isAgg=false:=by simpa using hagg
  rw [hagg']
  cases cs with
  | nil=>simp at ho
  | cons c cs=>
   cases cs with
   | cons _ _=>simp at ho
   | nil=>
    simp at ho
    subst ho
    cases vs with
    | nil=>exact absurd hv.1 (by simp)
    | cons v vs=>
     cases vs with
     | cons _ _=>exact absurd hv.1 (by simp)
     | nil=>
      refine ⟨v,?_,hv.head⟩
      have:=hc 0 v rfl
      simp only [Nat.add_zero] at this
      simp [this]
theorem tI {Ω:Om} {w:World} {b:Nat}:∀(cs:List AV) (off:Nat),(∀(j:Nat) (c:AV),cs[j]?=some c→∃v,w.cell? ⟨b,off+j,none⟩=some v/\V Ω c v)→
  ∃vs,VL Ω cs vs/\∀j v,vs[j]?=some v→w.cell? ⟨b,off+j,none⟩=some v
 | [],_,_=>⟨[],.nil,fun j v h=>by simp at h⟩
 | c ::cs,off,h=>by
  obtain ⟨v,h1,h2⟩:=h 0 c rfl
  obtain ⟨vs,h3,h4⟩:=tI (w:=w) (b:=b) cs (off+1) (fun j d hd=>by
   have:=h (j+1) d (by simpa using hd)
   rwa [show off+(j+1)=off+1+j by omega] at this)
  refine ⟨v ::vs,.cons h2 h3,fun j u hu=>?_⟩
  cases j with
  | zero=>simp at hu;subst hu;exact h1
  | succ j=>
   have:=h4 j u (by simpa using hu)
   rwa [show off+1+j=off+(j+1) by omega] at this
theorem uu (l:List AV):kG l l.length=some l:=by
 induction l with
 | nil=>rfl
 | cons a l ih=>simp [kG,ih]
theorem qk {l ds:List AV} {off:Nat} (h:iM l off=some ds):sub l off ds.length=some ds:=by
 simp [sub,h,uu]
theorem xD (cs:List AV) (n:Nat) (hn:n=cs.length):sub cs 0 n=some cs:=by
 subst hn
 exact qk (by cases cs <;> rfl)
theorem gU {n m:SN} {off:Nat} {y:SD n} {z:SD m} (h:gI n off y=some (.st m z)):sub (cells (.st n) y) off (a7 (.st m))=some (cells (.st m) z):=by
 cases n with
 | shape=>cases h
 | item=>
  match off,h with
  | 2,h=>
   simp only [gI,Xs] at h
   cases h
   rfl
 | change=>cases h
 | token=>cases h
 | fault=>cases h
 | term=>cases h
 | version=>cases h
 | bound=>
  match off,h with
  | 1,h=>
   simp only [gI,Xs] at h
   cases h
   rfl
 | imp=>
  match off,h with
  | 1,h=>
   simp only [gI,Xs] at h
   cases h
   rfl
 | decl=>
  match off,h with
  | 2,h=>
   simp only [gI,Xs] at h
   cases h
   rfl
  | 7,h=>
   simp only [gI,Xs] at h
   cases h
   rfl
 | modu=>cases h
 | bind=>
  match off,h with
  | 2,h=>
   simp only [gI,Xs] at h
   cases h
   rfl
 | env=>cases h
 | dep=>cases h
 | val=>cases h
 | cell=>
  match off,h with
  | 1,h=>
   simp only [gI,Xs] at h
   cases h
   rfl
 | op=>cases h
 | chunk=>cases h
 | usg=>cases h
 | nm=>cases h
 | stt=>cases h
 | par=>cases h
 | rstt=>cases h
 | thing=>cases h
 | func=>cases h
 | scope=>
  match off,h with
  | 2,h=>
   simp only [gI,Xs] at h
   cases h
   rfl
 | plc=>cases h
theorem kJ {P:Program} {t:Nat} {r:TR} (hr:TRok P t r) {c:AV} {off:Nat} {x:AV} (h:gN r c off=some x) :
  ∃ds z,sub (a8 c) off r.size=some ds/\bZ r ds=some z/\∀Ω v,V Ω z v→V Ω x v:=by
 have cI:∀{off:Nat},(match sub (a8 c) off r.size with | some cs=>bZ r cs | none=>none)=some x→
   ∃ds z,sub (a8 c) off r.size=some ds/\bZ r ds=some z/\∀Ω v,V Ω z v→V Ω x v:=by
  intro off h
  split at h
  ·rename_i cs hcs
   exact ⟨cs,x,hcs,h,fun _ _ h=>h⟩
  ·simp at h
 unfold gN at h
 split at h
 ·rename_i n y m hty
  obtain ⟨hw,ha⟩:=hr.ty _ hty
  split at h
  ·rename_i hnm
   subst hnm
   simp only [Xs] at h
   subst h
   refine ⟨cells (.st n) y,.agg (cells (.st n) y),xD _ _ (by show r.size=(cells (.st n) y).length;rw [az,hw]),?_,fun Ω v hv=>.st n y v hv⟩
   have ha':r.isAgg=true:=by rw [←ha];rfl
   simp [bZ,ha']
  ·exact cI h
 ·rename_i n y o m hty
  obtain ⟨hw,ha⟩:=hr.ty _ hty
  have ha':r.isAgg=true:=by rw [←ha];rfl
  split at h
  ·rename_i m' z hz
   split at h
   ·rename_i hm
    subst hm
    simp only [Xs] at h
    subst h
    have hs:=gU hz
    rw [hw] at hs
    exact ⟨cells (.st _) z,.agg (cells (.st _) z),hs,by simp [bZ,ha'],fun Ω v hv=>.st _ z v hv⟩
   ·simp at h
  ·exact cI h
 ·exact cI h
section
variable {P:Program} {C:Cfg} {F:Fr} {s:AS} {a:Act} {Ω:Om} {o:Oper} {eff:Eff} {next:Act→World→Prop} {Q:Exit→Act→World→Prop}
def bg (P:Program) (C:Cfg) (o:Oper):Prop:=
 ∀(F:Fr) (s:AS) (a:Act) (Ω:Om) (eff:Eff) (next:Act→World→Prop) (Q:Exit→Act→World→Prop),
  Holds F s a Ω→(∀d,o.dst=some d→d < F.n)→aj C o s.T s.B=some eff→eff.asks→
  (∀a' Ω',Holds F (s.put o.dst eff) a' Ω'→next a' Ω'.w)→o.wp P a Ω.w next Q
theorem bg.pure (hv:∀(F:Fr) (s:AS) (a:Act) (Ω:Om) (eff:Eff),Holds F s a Ω→aj C o s.T s.B=some eff→eff.asks→
  eff.upd=[]/\∃v,(execOp a.eval o).run P Ω.w=.ok (.value v) Ω.w/\V Ω eff.val v):bg P C o:=by
 intro F s a Ω eff next Q h hd he ho hn
 obtain ⟨h1,v,h2,h3⟩:=hv F s a Ω eff h he ho
 refine af h2 (hn _ _ ?_)
 have:=h.pure h3 hd
 simpa [AS.put,h1,aR] using this
theorem xE {x:Operand} (hop:o.op=.move x):bg P C o:=by
 refine bg.pure fun F s a Ω eff h he ho=>?_
 simp only [aj,hop,Xs] at he
 subst he
 exact ⟨rfl,_,by simp [execOp,hop],aF h x⟩
theorem uv {x:Operand} (hop:o.op=.assign x):bg P C o:=by
 refine bg.pure fun F s a Ω eff h he ho=>?_
 simp only [aj,hop,Xs] at he
 subst he
 exact ⟨rfl,_,by simp [execOp,hop],aF h x⟩
theorem V.bool_inv {Ω:Om} {b:Bool} {v:Value} (h:V Ω (.bool b) v):v=.bool b:=by cases h;rfl
theorem V.int_inv {Ω:Om} {k:IntKind} {n:Int} {v:Value} (h:V Ω (.int k n) v):v=.int k n/\k.min<=n/\n<=k.max:=by cases h;exact ⟨rfl,by assumption,by assumption⟩
theorem V.str_inv {Ω:Om} {s:Str} {v:Value} (h:V Ω (.str s) v):v=.string ⟨s.toArray⟩/\s.length<=aM:=by cases h;exact ⟨rfl,by assumption⟩
theorem V.nils_inv {Ω:Om} {v:Value} (h:V Ω .nils v):v=.slice none 0 0:=by cases h;rfl
theorem V.ptr_inv {Ω:Om} {i off:Nat} {v:Value} (h:V Ω (.ptr i off) v):∃b o len,v=.pointer (some ⟨b,o+off,none⟩)/\Ω.e i=some (.box b o len):=by
 cases h;exact ⟨_,_,_,rfl,by assumption⟩
theorem xF {c x y:Operand} (hop:o.op=.pick c x y):bg P C o:=by
 refine bg.pure fun F s a Ω eff h he ho=>?_
 simp only [aj,hop] at he
 split at he
 ·rename_i b hb
  simp only [Xs] at he
  subst he
  have hc:=aF h c
  rw [hb] at hc
  have hc:=hc.bool_inv
  cases b
  ·exact ⟨rfl,_,by simp [execOp,hop,hc,asBool],aF h y⟩
  ·exact ⟨rfl,_,by simp [execOp,hop,hc,asBool],aF h x⟩
 ·simp at he
theorem eA (hT:aE P C.tbl) {t:Nat} {r:TR} (hr:aq C.tbl t=some r) {Ω:Om} {w:World} {c x:AV} {b o' off:Nat} (hl:gN r c off=some x)
  (hc:∀(j:Nat) (c':AV),(a8 c)[j]?=some c'→∃v,w.cell? ⟨b,o'+j,none⟩=some v/\V Ω c' v) :
  ∃v,(loadVar t ⟨b,o'+off,none⟩).run P w=.ok v w/\V Ω x v:=by
 obtain ⟨ds,z,h1,h2,h3⟩:=kJ (hT t r hr) hl
 obtain ⟨vs,h4,h5⟩:=tI _ _ hc
 obtain ⟨s1,s2⟩:=eR h1
 obtain ⟨v,h6,h7⟩:=qj (w:=w) (hT t r hr).tf h2 (h4.sub h1) (b:=b) (off:=o'+off) (by rw [s2];simp;omega) (fun j u hj=>by
  rw [List.getElem?_take] at hj
  split at hj
  ·rw [List.getElem?_drop] at hj
   have:=h5 _ _ hj
   rwa [←Nat.add_assoc] at this
  ·simp at hj)
 exact ⟨v,h6,h3 _ _ h7⟩
theorem eU (τ:Ty) (x:den τ):a8 (inj τ x)=cells τ x:=by cases τ <;> rfl
theorem V.aptr_inv {Ω:Om} {i n w off:Nat} {v:Value} (h:V Ω (.aptr i n w off) v):∃b o len,v=.pointer (some ⟨b,o+(n *w+off),none⟩)/\Ω.e i=some (.box b o len):=by
 cases h;exact ⟨_,_,_,rfl,by assumption⟩
theorem aP.row {Ω:Om} {own:Nat→Nat→Prop} {id b o len:Nat} {τ:Ty} {xs:List (den τ)} (h:aP Ω own id (.box (.row τ xs))) (he:Ω.e id=some (.box b o len))
  {i:Nat} (hi:i < xs.length) (j:Nat) (c:AV) (hc:(a8 (inj τ (xs.getD i (dfl τ))))[j]?=some c) :
  (flat τ xs)[i *a7 τ+j]?=some c/\own b (o+(i *a7 τ+j))/\¬Ω.pub b (o+(i *a7 τ+j))/\Ω.w.frozen? ⟨b,o+(i *a7 τ+j),none⟩=false/\
   ∃v,Ω.w.cell? ⟨b,o+(i *a7 τ+j),none⟩=some v/\V Ω c v:=by
 obtain ⟨b',o',e1,e2⟩:=h
 rw [he] at e1
 simp only [Xs,CObj.box.injEq] at e1
 obtain ⟨rfl,rfl,rfl⟩:=e1
 have hx:xs[i]?=some (xs.getD i (dfl τ)):=by simp [List.getD_eq_getElem?_getD,hi]
 rw [eU] at hc
 have hf:=dD τ xs i _ j c hx hc
 exact ⟨hf,e2 _ c hf⟩
theorem V.gptr_inv {Ω:Om} {k s i w off:Nat} {v:Value} (h:V Ω (.gptr k s i w off) v):∃b,v=.pointer (some ⟨b,i *w+off,none⟩)/\uq Ω k s b:=by
 cases h;exact ⟨_,rfl,by assumption⟩
theorem aP.grow_at {Ω:Om} {own:Nat→Nat→Prop} {k s s' b:Nat} {τ:Ty} {xs:List (den τ)} (h:aP Ω own k (.grow τ s' xs)) (hp:uq Ω k s b) (hs:s=s') :
  ∃cap,Ω.e k=some (.tail s' (some b) cap)/\xs.length<=cap/\cap<=aM/\(∀o,own b o)/\(∃vs ty fz,Ω.w.heap[b]?=some (.cells vs ty fz)/\fz.2=0/\cap *a7 τ<=vs.size)/\(∀o,¬Ω.pub b o)/\
   ∀(j:Nat) (c:AV),(flat τ xs)[j]?=some c→∃v,Ω.w.cell? ⟨b,j,none⟩=some v/\V Ω c v:=by
 obtain ⟨base,cap,e1,e2,e3,e4,e5⟩:=h
 obtain ⟨m,base',c',g1,g2,g3⟩:=hp
 rw [e1] at g1
 simp only [Xs,CObj.tail.injEq] at g1
 obtain ⟨rfl,rfl,rfl⟩:=g1
 have hb:=g3 hs
 obtain ⟨q1,q2,q3,q4⟩:=e5 b hb
 exact ⟨cap,by rw [e1,hb],e2,e3,q1,q2,q3,q4⟩
theorem uw {τ:Ty} {xs:List (den τ)} {i:Nat} (hi:i < xs.length) (j:Nat) (c:AV) (hc:(a8 (inj τ (xs.getD i (dfl τ))))[j]?=some c):(flat τ xs)[i *a7 τ+j]?=some c:=by
 have hx:xs[i]?=some (xs.getD i (dfl τ)):=by simp [List.getD_eq_getElem?_getD,hi]
 rw [eU] at hc
 exact dD τ xs i _ j c hx hc
theorem xG (hT:aE P C.tbl) {t:Nat} {x:Operand} (hop:o.op=.load t x):bg P C o:=by
 refine bg.pure fun F s a Ω eff h he ho=>?_
 simp only [aj,hop] at he
 split at he
 ·rename_i r hr
  have hx:=aF h x
  split at he
  ·rename_i id off hopd
   rw [hopd] at hx
   obtain ⟨b,o',len,hxv,hxb⟩:=hx.ptr_inv
   split at he
   ·rename_i c hcs
    simp only [Option.map_eq_some_iff] at he
    obtain ⟨av,ho1,rfl⟩:=he
    obtain ⟨b',off',e1,e2⟩:=h.slots id _ hcs
    rw [hxb] at e1
    simp only [Xs,CObj.box.injEq] at e1
    obtain ⟨rfl,rfl,rfl⟩:=e1
    obtain ⟨v,hv1,hv2⟩:=eA (w:=Ω.w) hT hr ho1 (b:=b) (o':=o') (fun j c' hc=>(e2 j c' hc).2.2.2)
    exact ⟨rfl,v,by simp [execOp,hop,hxv,Instr.loadAt,Instr.sureAddr,hv1],hv2⟩
   ·simp at he
  ·rename_i c hopd
   rw [hopd] at hx
   simp only [Option.map_eq_some_iff] at he
   obtain ⟨av,ho1,rfl⟩:=he
   generalize hxe:a.eval x=xv at hx
   cases hx with
   | cptr _ b off vals h1 h2=>
    obtain ⟨v,hv1,hv2⟩:=eA (w:=Ω.w) hT hr ho1 (b:=b) (o':=off) (fun j c' hc=>⟨_,(h1 j c' hc).2,h2 j c' hc⟩)
    simp only [Nat.add_zero] at hv1
    exact ⟨rfl,v,by simp [execOp,hop,hxe,Instr.loadAt,Instr.sureAddr,hv1],hv2⟩
  ·rename_i id i w off hopd
   rw [hopd] at hx
   obtain ⟨b,o',len,hxv,hxb⟩:=hx.aptr_inv
   split at he
   ·rename_i τ xs hcs
    unfold tC at he
    split at he
    ·rename_i hw
     subst hw
     split at he
     ·rename_i av hav
      simp only [Xs] at he
      subst he
      have hi:i < xs.length:=ho
      obtain ⟨v,hv1,hv2⟩:=eA (w:=Ω.w) hT hr hav (b:=b) (o':=o'+i *a7 τ) (fun j c' hc=>by
       obtain ⟨_,_,_,_,v,h1,h2⟩:=(h.slots id _ hcs).row hxb hi j c' hc
       exact ⟨v,by rw [Nat.add_assoc];exact h1,h2⟩)
      rw [Nat.add_assoc] at hv1
      exact ⟨rfl,v,by simp [execOp,hop,hxv,Instr.loadAt,Instr.sureAddr,hv1],hv2⟩
     ·simp at he
    ·simp at he
   ·simp at he
  ·rename_i k s1 i w off hopd
   rw [hopd] at hx
   obtain ⟨b,hxv,hxb⟩:=hx.gptr_inv
   split at he
   ·rename_i τ s2 xs hcs
    unfold yn at he
    split at he
    ·rename_i hw
     subst hw
     split at he
     ·rename_i av hav
      simp only [Xs] at he
      subst he
      obtain ⟨hs,hi⟩:s1=s2/\i < xs.length:=ho
      obtain ⟨cap,_,_,_,_,_,_,hcell⟩:=(h.slots k _ hcs).grow_at hxb hs
      obtain ⟨v,hv1,hv2⟩:=eA (w:=Ω.w) hT hr hav (b:=b) (o':=i *a7 τ) (fun j c' hc=>hcell _ c' (uw hi j c' hc))
      exact ⟨rfl,v,by simp [execOp,hop,hxv,Instr.loadAt,Instr.sureAddr,hv1],hv2⟩
     ·simp at he
    ·simp at he
   ·simp at he
  ·simp at he
 ·simp at he
theorem ql {x:Operand} (hop:o.op=.nilCheck x):bg P C o:=by
 refine bg.pure fun F s a Ω eff h he ho=>?_
 simp only [aj,hop] at he
 have hx:=aF h x
 split at he
 ·rename_i id off hopd
  simp only [Xs] at he
  subst he
  rw [hopd] at hx
  obtain ⟨b,o',len,hxv,hxb⟩:=hx.ptr_inv
  exact ⟨rfl,.pointer (some ⟨b,o'+off,none⟩),by simp [execOp,hop,hxv],.ptr id off b o' len hxb⟩
 ·rename_i cs hopd
  simp only [Xs] at he
  subst he
  rw [hopd] at hx
  generalize hxe:a.eval x=xv at hx
  have hx':=hx
  cases hx with
  | cptr _ b off vals h1 h2=>exact ⟨rfl,_,by simp [execOp,hop,hxe],hx'⟩
 ·rename_i id i w off hopd
  simp only [Xs] at he
  subst he
  rw [hopd] at hx
  obtain ⟨b,o',len,hxv,hxb⟩:=hx.aptr_inv
  rw [hxv] at hx
  exact ⟨rfl,_,by simp [execOp,hop,hxv],hx⟩
 ·rename_i k s1 i w off hopd
  simp only [Xs] at he
  subst he
  rw [hopd] at hx
  obtain ⟨b,hxv,hxb⟩:=hx.gptr_inv
  rw [hxv] at hx
  exact ⟨rfl,_,by simp [execOp,hop,hxv],hx⟩
 ·rename_i f cs hopd
  simp only [Xs] at he
  subst he
  rw [hopd] at hx
  generalize hxe:a.eval x=xv at hx
  have hx':=hx
  cases hx with
  | fn f cs vs h1 h2=>exact ⟨rfl,_,by simp [execOp,hop,hxe],hx'⟩
 ·rename_i n y hopd
  simp only [Xs] at he
  subst he
  rw [hopd] at hx
  have hs:y.isSome=true:=ho
  cases y with
  | none=>cases hs
  | some y=>
   generalize hxe:a.eval x=xv at hx
   cases hx with
   | ptSome n y v hv=>
    have hv':=hv
    cases hv with
    | cptr _ b off vals h1 h2=>exact ⟨rfl,_,by simp [execOp,hop,hxe],hv'⟩
 ·simp at he
end
end Go.AL
end
noncomputable section
namespace Go.AL
variable [Tabs]
section
variable {P:Program} {C:Cfg} {o:Oper}
theorem fy (k:IntKind) (n:Int) (h1:k.min<=n) (h2:n<=k.max):k.wrap n=n:=by
 cases k <;> simp only [IntKind.min,IntKind.max,IntKind.signed,IntKind.bits,IntKind.wrap] at *<;> simp at *<;> omega
theorem jU {op:BinOp} {t:Nat} {x y:Operand} {k k':IntKind} {a b:Int}:eqGuard op t x y (.int k a) (.int k' b)=pure ():=by
 unfold eqGuard
 cases op <;> rfl
theorem uz {op:BinOp} {t:Nat} {x y:Operand} {a b:ByteArray}:eqGuard op t x y (.string a) (.string b)=pure ():=by
 unfold eqGuard
 cases op <;> rfl
theorem rZ {op:BinOp} {t:Nat} {x y:Operand} {a b:Bool}:eqGuard op t x y (.bool a) (.bool b)=pure ():=by
 unfold eqGuard
 cases op <;> rfl
theorem aY (k:IntKind) (n:Int):k.min<=k.wrap n/\k.wrap n<=k.max:=by
 cases k <;> simp only [IntKind.min,IntKind.max,IntKind.signed,IntKind.bits,IntKind.wrap] <;> simp <;> omega
theorem tJ {Ω:Om} {op:BinOp} {t:Nat} {k:IntKind} {m n:Int} {eff:Eff} (he:oX op k m n=some eff) (ho:eff.asks) {w:World}
  (hm:k.min<=m/\m<=k.max) (hn:k.min<=n/\n<=k.max) :
  eff.upd=[]/\∃v,(binOp op t (.int k m) (.int k n)).run P w=.ok v w/\V Ω eff.val v:=by
 have hmax:k.min<=0/\0<=k.max:=by cases k <;> simp [IntKind.min,IntKind.max,IntKind.signed,IntKind.bits]
 cases op <;> simp only [oX,Xs,reduceCtorEq] at he <;> subst he <;> refine ⟨rfl,?_⟩
 case and=>exact ⟨_,by simp [binOp,Op.intBits],.int k _ (aY k _).1 (aY k _).2⟩
 case or=>exact ⟨_,by simp [binOp,Op.intBits],.int k _ (aY k _).1 (aY k _).2⟩
 case xor=>exact ⟨_,by simp [binOp,Op.intBits],.int k _ (aY k _).1 (aY k _).2⟩
 case add=>
  obtain ⟨h1,h2⟩:=ho
  exact ⟨_,by simp [binOp,Op.intArith,fy k _ h1 h2],.int k _ h1 h2⟩
 case sub=>
  obtain ⟨h1,h2⟩:=ho
  exact ⟨_,by simp [binOp,Op.intArith,fy k _ h1 h2],.int k _ h1 h2⟩
 case mul=>
  obtain ⟨h1,h2⟩:=ho
  exact ⟨_,by simp [binOp,Op.intArith,fy k _ h1 h2],.int k _ h1 h2⟩
 case quo=>
  obtain ⟨h0,h1,h2⟩:=ho
  exact ⟨_,by simp [binOp,Op.intDiv,fy k _ h1 h2,h0],.int k _ h1 h2⟩
 case rem=>
  obtain ⟨h0,h1,h2⟩:=ho
  exact ⟨_,by simp [binOp,Op.intDiv,h0],.int k _ h1 h2⟩
 case eql=>exact ⟨.bool (decide (m=n)),by simp [binOp,Op.intCmp];by_cases h:m=n <;> simp [h],.bool _⟩
 case neq=>exact ⟨.bool (!decide (m=n)),by simp [binOp,Op.intCmp];by_cases h:m=n <;> simp [h],.bool _⟩
 case lss=>exact ⟨_,by simp [binOp,Op.intCmp],.bool _⟩
 case leq=>exact ⟨_,by simp [binOp,Op.intCmp],.bool _⟩
 case gtr=>exact ⟨_,by simp [binOp,Op.intCmp],.bool _⟩
 case geq=>exact ⟨_,by simp [binOp,Op.intCmp],.bool _⟩
theorem vX {Ω:Om} {op:BinOp} {t:Nat} {k:IntKind} {m n:Int} {eff:Eff} (he:oY op k m n=some eff) (ho:eff.asks) {w:World}
  (hm:k.min<=m/\m<=k.max) (hn:k.min<=n/\n<=k.max) :
  eff.upd=[]/\∃v,(binOp op t (.int k m) (.int k n)).run P w=.ok v w/\V Ω eff.val v:=by
 unfold oY at he
 split at he
 ·cases he;exact ⟨rfl,_,by simp [binOp,Op.intArith],.int k _ (aY k _).1 (aY k _).2⟩
 ·cases he;exact ⟨rfl,_,by simp [binOp,Op.intArith],.int k _ (aY k _).1 (aY k _).2⟩
 ·cases he;exact ⟨rfl,_,by simp [binOp,Op.intArith],.int k _ (aY k _).1 (aY k _).2⟩
 ·exact tJ he ho hm hn
theorem og (k:IntKind) (m:Int) (n:Nat) (hm:k.min<=m/\m<=k.max):k.min<=m.fdiv (2 ^ n)/\m.fdiv (2 ^ n)<=k.max:=by
 have hp:(1:Int)<=2 ^ n:=Int.pow_pos (by decide)
 have e:m.fdiv (2 ^ n)=m / (2 ^ n):=Int.fdiv_eq_ediv_of_nonneg m (by omega)
 have hmax:k.min<=0/\0<=k.max:=by cases k <;> simp [IntKind.min,IntKind.max,IntKind.signed,IntKind.bits]
 rw [e]
 rcases Int.lt_or_le m 0 with h | h
 ·have h1:m<=m / (2 ^ n):=(Int.le_ediv_iff_mul_le (by omega)).2 (by
   have h3:0<=(2:Int) ^ n - 1:=by omega
   have h4:m *((2:Int) ^ n - 1)<=0:=Int.mul_nonpos_of_nonpos_of_nonneg (show m<=0 by omega) h3
   rw [Int.mul_sub,Int.mul_one] at h4
   omega)
  have h2:m / (2 ^ n) < 0:=Int.ediv_neg_of_neg_of_pos h (by omega)
  omega
 ·have h1:m / (2 ^ n)<=m:=Int.ediv_le_self _ h
  have h2:0<=m / (2 ^ n):=Int.ediv_nonneg h (by omega)
  omega
theorem uA {Ω:Om} {op:BinOp} {t:Nat} {k k':IntKind} {m n:Int} {eff:Eff} (he:rO op k m n=some eff) (ho:eff.asks) {w:World}
  (hm:k.min<=m/\m<=k.max) :
  eff.upd=[]/\∃v,(binOp op t (.int k m) (.int k' n)).run P w=.ok v w/\V Ω eff.val v:=by
 cases op <;> simp only [rO,Xs,reduceCtorEq] at he <;> subst he <;> refine ⟨rfl,?_⟩
 case shl=>
  have h0:¬n < 0:=by have:0<=n:=ho;omega
  exact ⟨_,by simp [binOp,Op.shift,h0],.int k _ (aY k _).1 (aY k _).2⟩
 case shr=>
  have h0:¬n < 0:=by have:0<=n:=ho;omega
  exact ⟨_,by simp [binOp,Op.shift,h0],.int k _ (og k m _ hm).1 (og k m _ hm).2⟩
theorem dj (l:List UInt8):(⟨l.toArray⟩:ByteArray).toList=l:=by
 have h:∀(b:ByteArray) (i:Nat) (r:List UInt8),ByteArray.toList.loop b i r=r.reverse++b.data.toList.drop i:=by
  intro b i r
  induction hk:b.size - i generalizing i r with
  | zero=>
   unfold ByteArray.toList.loop
   rw [if_neg (by omega)]
   have:b.data.toList.drop i=[]:=List.drop_eq_nil_of_le (by simp;exact Nat.le_of_sub_eq_zero hk)
   simp [this]
  | succ k ih=>
   unfold ByteArray.toList.loop
   have hlt:i < b.size:=by omega
   rw [if_pos hlt,ih (i+1) _ (by omega)]
   have hlt':i < b.data.toList.length:=by simpa using hlt
   rw [List.drop_eq_getElem_cons hlt']
   simp [ByteArray.get!,hlt]
 unfold ByteArray.toList
 rw [h]
 simp
theorem jm (m n:Str):(m ==n)=decide (m=n):=by rw [Bool.eq_iff_iff];simp
theorem xH {Ω:Om} {op:BinOp} {t:Nat} {m n:Str} {eff:Eff} (he:rP op m n=some eff) (ho:eff.asks) {w:World} :
  eff.upd=[]/\∃v,(binOp op t (.string ⟨m.toArray⟩) (.string ⟨n.toArray⟩)).run P w=.ok v w/\V Ω eff.val v:=by
 cases op <;> simp only [rP,Xs,reduceCtorEq] at he <;> subst he <;> refine ⟨rfl,?_⟩
 case add=>
  have h1:m.length+n.length<=9223372036854775807:=ho
  have e:(⟨m.toArray⟩:ByteArray)++⟨n.toArray⟩=⟨(m++n).toArray⟩:=by
   apply ByteArray.ext
   simp
  refine ⟨.string ⟨(m++n).toArray⟩,?_,.str (m++n) (by unfold aM;simp;omega)⟩
  have e2:¬(((ByteArray.size ⟨m.toArray⟩+ByteArray.size ⟨n.toArray⟩:Nat):Int) > IntKind.i64.max):=by
   simp [ByteArray.size,IntKind.max,IntKind.signed,IntKind.bits]
   omega
  simp only [binOp,Op.stringOp]
  rw [if_neg e2,e]
  rfl
 case eql=>exact ⟨.bool (decide (m=n)),by simp [binOp,Op.stringOp,dj,jm],.bool _⟩
 case neq=>exact ⟨.bool (!decide (m=n)),by simp [binOp,Op.stringOp,dj,jm],.bool _⟩
 case lss=>exact ⟨.bool (Op.bytesLess m n),by simp [binOp,Op.stringOp,dj],.bool _⟩
 case leq=>exact ⟨.bool (Op.bytesLess m n || decide (m=n)),by simp [binOp,Op.stringOp,dj,jm],.bool _⟩
 case gtr=>exact ⟨.bool (!(Op.bytesLess m n || decide (m=n))),by simp [binOp,Op.stringOp,dj,jm],.bool _⟩
 case geq=>exact ⟨.bool (!Op.bytesLess m n),by simp [binOp,Op.stringOp,dj],.bool _⟩
theorem jV (d:Nat) {t:Nat} {m n:Bool} (hu:P.underlying t=some .bool) {w:World} :
  (Op.equalIn (d+1) t (.bool m) (.bool n)).run P w=.ok (m ==n) w:=by
 unfold Op.equalIn
 simp only [Sem.run_bind,an hu,Result.andThen_ok]
 rfl
theorem gV {t:Nat} {m n:Bool} (hu:P.underlying t=some .bool) {w:World} :
  (Op.equal t (.bool m) (.bool n)).run P w=.ok (m ==n) w:=jV 9999 hu
theorem vY {Ω:Om} {op:BinOp} {t:Nat} {m n:Bool} {eff:Eff} (hu:P.underlying t=some .bool) (he:oZ op m n=some eff) {w:World} :
  eff.upd=[]/\∃v,(binOp op t (.bool m) (.bool n)).run P w=.ok v w/\V Ω eff.val v:=by
 cases op <;> simp only [oZ,Xs,reduceCtorEq] at he <;> subst he <;> refine ⟨rfl,?_⟩
 case eql=>exact ⟨.bool (m ==n),by simp [binOp,gV hu],.bool _⟩
 case neq=>exact ⟨.bool (!(m ==n)),by simp [binOp,gV hu],.bool _⟩
theorem ao (hT:aE P C.tbl) {t:Nat} {r:TR} (hr:aq C.tbl t=some r) {ti:TI} (hti:r.ti=ti) :
  ∃d,P.underlying t=some d/\au P ti d=true:=by
 obtain ⟨d,h1,h2⟩:=(hT t r hr).desc
 exact ⟨d,h1,by rw [←hti];exact h2⟩
theorem jn (hT:aE P C.tbl) {ft:Nat} {rt:TR} (hr:aq C.tbl ft=some rt) {Ω:Om} {c d:AV} {u v:Value} {b:Bool} (h:lV rt.ti c d=some b)
  (hu:V Ω c u) (hv:V Ω d v) (dep:Nat) (w:World):(Op.equalIn (dep+1) ft u v).run P w=.ok b w/\rt.isAgg=false:=by
 obtain ⟨dd,hd1,hd2⟩:=ao hT hr rfl
 unfold TR.isAgg
 generalize rt.ti=ti at h hd2
 unfold lV at h
 split at h
 ·split at h
  ·rename_i j a k b' hjk
   subst hjk
   cases dd <;> simp [au] at hd2
   simp at h
   subst h
   rw [hu.int_inv.1,hv.int_inv.1]
   refine ⟨?_,rfl⟩
   rw [run_equalIn_int _ _ _ _ _ _ _ hd1]
   congr 1
  ·cases h
 ·cases dd <;> simp [au] at hd2
  simp at h
  subst h
  rw [hu.bool_inv,hv.bool_inv]
  exact ⟨run_equalIn_bool' _ _ _ _ _ hd1,rfl⟩
 ·cases dd <;> simp [au] at hd2
  simp at h
  subst h
  rw [hu.str_inv.1,hv.str_inv.1]
  refine ⟨?_,rfl⟩
  rw [run_equalIn_string _ _ _ _ _ hd1,dj,dj,jm]
 ·cases h
theorem gi (hT:aE P C.tbl) {Ω:Om} {cs ds:List AV} {xs ys:List Value} (hx:VL Ω cs xs) (hy:VL Ω ds ys) (dep:Nat) (w:World) :
  ∀(fields:List Field) (b:Bool),(∀f∈fields,f.name≠ "_")→rT C (fields.map fun f=>(f.offset,f.type)) cs ds=some b→
   (Op.eqFields (dep+1) xs.toArray ys.toArray fields).run P w=.ok b w
 | [],b,_,h=>by simp [rT] at h;subst h;simp [Op.eqFields]
 | f ::r,b,hn,h=>by
  simp only [List.map_cons,rT] at h
  split at h
  ·rename_i rt c d hr hc hd
   split at h
   ·rename_i b1 b2 h1 h2
    simp only [Xs] at h
    subst h
    rw [fL] at hc hd
    have getv:∀{cs:List AV} {vs:List Value} {c:AV},VL Ω cs vs→cs[f.offset]?=some c→∃v,vs[f.offset]?=some v/\V Ω c v:=by
     intro cs vs c hv hc
     have hl:f.offset < cs.length:=by
      rcases Nat.lt_or_ge f.offset cs.length with k | k
      ·exact k
      ·rw [List.getElem?_eq_none k] at hc;cases hc
     have hl':f.offset < vs.length:=by rw [←hv.1];exact hl
     exact ⟨vs[f.offset],List.getElem?_eq_getElem hl',hv.2 _ c _ hc (List.getElem?_eq_getElem hl')⟩
    obtain ⟨u,hu1,hu2⟩:=getv hx hc
    obtain ⟨v,hv1,hv2⟩:=getv hy hd
    obtain ⟨k1,k2⟩:=jn hT hr h1 hu2 hv2 dep w
    have hpart:∀{vs:List Value} {u:Value},vs[f.offset]?=some u→(part f.type vs.toArray f.offset).run P w=.ok u w:=by
     intro vs u hu
     simp [part,(hT _ _ hr).tf.agg,k2,hu]
    have ih:=gi hT hx hy dep w r b2 (fun g hg=>hn g (by simp [hg])) h2
    simp only [Op.eqFields,ne_eq,hn f (by simp),not_false_eq_true,if_true,Sem.run_bind,hpart hu1,hpart hv1,Result.andThen_ok,k1]
    cases b1
    ·simp
    ·simp [ih]
   ·cases h
  ·cases h
theorem qm (hT:aE P C.tbl) {t sz by':Nat} {z:List AV} {ty:Option Ty} {fs:List (Nat × Nat)} (hr:aq C.tbl t=some ⟨.strct true fs,sz,by',z,ty⟩) {Ω:Om} {cs ds:List AV} {xs ys:List Value}
  (hx:VL Ω cs xs) (hy:VL Ω ds ys) (dep:Nat) (w:World) {b:Bool} (hb:rT C fs cs ds=some b):(Op.equalIn (dep+2) t (.agg xs.toArray) (.agg ys.toArray)).run P w=.ok b w:=by
 obtain ⟨d,hd1,hd2⟩:=ao hT hr rfl
 obtain ⟨e1,e2⟩:=(hT _ _ hr).eqs fs rfl
 cases d <;> try (simp [au] at hd2;done)
 rename_i fields
 simp only [au,Bool.and_eq_true,decide_eq_true_eq,List.all_eq_true] at hd2
 obtain ⟨hf1,hf2⟩:=hd2
 have hfo:P.fieldsOf t=fields:=by simp [Program.fieldsOf,hd1]
 rw [run_equalIn_struct w (dep+1) t _ _ (by rw [hfo];exact hd1) e1,hfo]
 exact gi hT hx hy dep w fields.toList b (fun f hf=>by simpa using (hf2 f hf).2) (by rw [hf1];exact hb)
theorem gj (hT:aE P C.tbl) {Ω:Om} {cs ds:List AV} {xs ys:List Value} (hx:VL Ω cs xs) (hy:VL Ω ds ys) (dep:Nat) (w:World) :
  ∀(fields:List Field) (b:Bool),(∀f∈fields,f.name≠ "_")→uk C (fields.map fun f=>(f.offset,f.type)) cs ds=some b→
   (Op.eqFields (dep+2) xs.toArray ys.toArray fields).run P w=.ok b w
 | [],b,_,h=>by simp [uk] at h;subst h;simp [Op.eqFields]
 | f ::r,b,hn,h=>by
  simp only [List.map_cons,uk] at h
  split at h
  ·rename_i gs n by' z ty hr
   split at h
   ·rename_i c d hc hd
    split at h
    ·rename_i b1 b2 h1 h2
     simp only [Xs] at h
     subst h
     have tf:=(hT _ _ hr).tf
     have hag:(⟨.strct true gs,n,by',z,ty⟩:TR).isAgg=true:=rfl
     have hpart:∀{cs:List AV} {vs:List Value} {c:AV→Prop} {cc:List AV},VL Ω cs vs→sub cs f.offset n=some cc→(part f.type vs.toArray f.offset).run P w=.ok (.agg ((vs.drop f.offset).take n).toArray) w:=by
      intro cs vs c cc hv hs
      have e:vs.toArray.extract f.offset (f.offset+n)=((vs.drop f.offset).take n).toArray:=by
       apply Array.ext'
       simp [List.extract_eq_take_drop]
      simp only [part,Sem.run_bind,tf.agg,hag,if_true,tf.size,Result.andThen_ok,e]
      rfl
     have k1:=qm hT hr (hx.sub hc) (hy.sub hd) dep w h1
     have ih:=gj hT hx hy dep w r b2 (fun g hg=>hn g (by simp [hg])) h2
     simp only [Op.eqFields,ne_eq,hn f (by simp),not_false_eq_true,if_true,Sem.run_bind,hpart (c:=fun _=>True) hx hc,hpart (c:=fun _=>True) hy hd,Result.andThen_ok,k1]
     cases b1
     ·simp
     ·simp [ih]
    ·cases h
   ·cases h
  ·rename_i rt hne hr
   split at h
   ·rename_i c d hc hd
    split at h
    ·rename_i b1 b2 h1 h2
     simp only [Xs] at h
     subst h
     rw [fL] at hc hd
     have getv:∀{cs:List AV} {vs:List Value} {c:AV},VL Ω cs vs→cs[f.offset]?=some c→∃v,vs[f.offset]?=some v/\V Ω c v:=by
      intro cs vs c hv hc
      have hl:f.offset < cs.length:=by
       rcases Nat.lt_or_ge f.offset cs.length with k | k
       ·exact k
       ·rw [List.getElem?_eq_none k] at hc;cases hc
      have hl':f.offset < vs.length:=by rw [←hv.1];exact hl
      exact ⟨vs[f.offset],List.getElem?_eq_getElem hl',hv.2 _ c _ hc (List.getElem?_eq_getElem hl')⟩
     obtain ⟨u,hu1,hu2⟩:=getv hx hc
     obtain ⟨v,hv1,hv2⟩:=getv hy hd
     obtain ⟨k1,k2⟩:=jn hT hr h1 hu2 hv2 (dep+1) w
     have hpart:∀{vs:List Value} {u:Value},vs[f.offset]?=some u→(part f.type vs.toArray f.offset).run P w=.ok u w:=by
      intro vs u hu
      simp [part,(hT _ _ hr).tf.agg,k2,hu]
     have ih:=gj hT hx hy dep w r b2 (fun g hg=>hn g (by simp [hg])) h2
     simp only [Op.eqFields,ne_eq,hn f (by simp),not_false_eq_true,if_true,Sem.run_bind,hpart hu1,hpart hv1,Result.andThen_ok,k1]
     cases b1
     ·simp
     ·simp [ih]
    ·cases h
   ·cases h
  ·cases h
theorem gl {Ω:Om} {x:AV} {cs:List AV} {v:Value} (h:V Ω x v) (hc:fS x=some cs):∃vs:List Value,v=.agg vs.toArray/\VL Ω cs vs:=by
 unfold fS at hc
 split at hc
 ·simp at hc;subst hc;exact h.agg_inv
 ·simp at hc
  subst hc
  cases h with
  | st _ _ v hv=>exact hv.agg_inv
 ·cases hc
theorem xI (hT:aE P C.tbl) {o:Oper} {op:BinOp} {t t':Nat} {x y:Operand} (hop:o.op=.binOp op t x y t') {a:Act} {Ω:Om} {cs ds:List AV} {xs ys:List Value}
  (hx:VL Ω cs xs) (hxv:a.eval x=.agg xs.toArray) (hyl:VL Ω ds ys) (hyv:a.eval y=.agg ys.toArray) {eff:Eff} (he:rU C op t cs ds=some eff) :
  eff.upd=[]/\∃v,(execOp a.eval o).run P Ω.w=.ok (.value v) Ω.w/\V Ω eff.val v:=by
 unfold rU at he
 split at he
 ·rename_i fs sz by' z ty hr
  split at he
  ·rename_i b hb
   obtain ⟨d,hd1,hd2⟩:=ao hT hr rfl
   obtain ⟨e1,e2⟩:=(hT _ _ hr).eqs fs rfl
   cases d <;> try (simp [au] at hd2;done)
   rename_i fields
   simp only [au,Bool.and_eq_true,decide_eq_true_eq,List.all_eq_true] at hd2
   obtain ⟨hf1,hf2⟩:=hd2
   have hfo:P.fieldsOf t=fields:=by simp [Program.fieldsOf,hd1]
   have hrun:(Op.equalIn 10000 t (.agg xs.toArray) (.agg ys.toArray)).run P Ω.w=.ok b Ω.w:=by
    rw [run_equalIn_struct Ω.w 9999 t _ _ (by rw [hfo];exact hd1) e1,hfo]
    exact gj hT hx hyl 9997 Ω.w fields.toList b (fun f hf=>by simpa using (hf2 f hf).2) (by rw [hf1];exact hb)
   have hg:=run_eqGuard_agg Ω.w op t x y xs.toArray ys.toArray e2
   split at he
   ·simp only [Xs] at he
    subst he
    exact ⟨rfl,.bool b,by simp [execOp,hop,hxv,hyv,hg,run_eql_struct,hrun],.bool _⟩
   ·simp only [Xs] at he
    subst he
    exact ⟨rfl,.bool (!b),by simp [execOp,hop,hxv,hyv,hg,run_neq_struct,hrun],.bool _⟩
   ·simp at he
  ·simp at he
 ·simp at he
theorem vZ (hT:aE P C.tbl) {op:BinOp} {t t':Nat} {x y:Operand} (hop:o.op=.binOp op t x y t'):bg P C o:=by
 refine bg.pure fun F s a Ω eff h he ho=>?_
 simp only [aj,hop] at he
 have hx:=aF h x
 have hy:=aF h y
 split at he
 ·rename_i k m k' n hm hn
  rw [hm] at hx
  rw [hn] at hy
  split at he
  ·obtain ⟨hx1,hx2⟩:=hx.int_inv
   obtain ⟨hy1,hy2⟩:=hy.int_inv
   obtain ⟨h1,v,h2,h3⟩:=uA (P:=P) (Ω:=Ω) (t:=t) (k':=k') (w:=Ω.w) he ho hx2
   exact ⟨h1,v,by simp [execOp,hop,hx1,hy1,jU,h2],h3⟩
  split at he
  ·rename_i hk
   subst hk
   obtain ⟨hx1,hx2⟩:=hx.int_inv
   obtain ⟨hy1,hy2⟩:=hy.int_inv
   split at he
   ·obtain ⟨h1,v,h2,h3⟩:=vX (P:=P) (Ω:=Ω) (t:=t) (w:=Ω.w) he ho hx2 hy2
    exact ⟨h1,v,by simp [execOp,hop,hx1,hy1,jU,h2],h3⟩
   ·obtain ⟨h1,v,h2,h3⟩:=tJ (P:=P) (Ω:=Ω) (t:=t) (w:=Ω.w) he ho hx2 hy2
    exact ⟨h1,v,by simp [execOp,hop,hx1,hy1,jU,h2],h3⟩
  ·simp at he
 ·rename_i m n hm hn
  rw [hm] at hx
  rw [hn] at hy
  obtain ⟨hx1,hx2⟩:=hx.str_inv
  obtain ⟨hy1,hy2⟩:=hy.str_inv
  obtain ⟨h1,v,h2,h3⟩:=xH (P:=P) (Ω:=Ω) (t:=t) (w:=Ω.w) he ho
  exact ⟨h1,v,by simp [execOp,hop,hx1,hy1,uz,h2],h3⟩
 ·rename_i m n hm hn
  rw [hm] at hx
  rw [hn] at hy
  have hx1:=hx.bool_inv
  have hy1:=hy.bool_inv
  split at he
  ·rename_i sz by' z ty hr
   obtain ⟨d,hd1,hd2⟩:=ao hT hr rfl
   cases d <;> simp [au] at hd2
   obtain ⟨h1,v,h2,h3⟩:=vY (P:=P) (Ω:=Ω) (t:=t) (w:=Ω.w) hd1 he
   exact ⟨h1,v,by simp [execOp,hop,hx1,hy1,rZ,h2],h3⟩
  ·simp at he
 ·rename_i n m hm hn
  rw [hm] at hx
  rw [hn] at hy
  split at he
  ·rename_i e sz by' z ty hr
   obtain ⟨d,hd1,hd2⟩:=ao hT hr rfl
   cases d <;> simp [au] at hd2
   have key:∃p,a.eval x=.pointer p/\p.isNone=m.isNone/\p.isSome=m.isSome:=by
    generalize a.eval x=xv at hx
    cases hx with
    | ptNone _=>exact ⟨none,rfl,rfl,rfl⟩
    | ptSome _ _ _ hv=>cases hv with
     | cptr _ b off vals _ _=>exact ⟨_,rfl,rfl,rfl⟩
   obtain ⟨p,hp,hp1,hp2⟩:=key
   have hy1:a.eval y=.pointer none:=by
    generalize a.eval y=yv at hy
    cases hy
    rfl
   have hq:(Op.equal t (.pointer p) (.pointer none)).run P Ω.w=.ok p.isNone Ω.w:=by
    unfold Op.equal Op.maxDepth Op.equalIn
    simp only [Sem.run_bind,an hd1,Result.andThen_ok]
    cases p <;> rfl
   have hg:(eqGuard op t x y (.pointer p) (.pointer none)).run P Ω.w=.ok () Ω.w:=by
    cases op <;> rfl
   split at he
   ·simp only [Xs] at he
    subst he
    exact ⟨rfl,.bool m.isNone,by rw [←hp1];simp [execOp,hop,hp,hy1,hg,binOp,hq],.bool _⟩
   ·simp only [Xs] at he
    subst he
    exact ⟨rfl,.bool m.isSome,by rw [←hp2];simp [execOp,hop,hp,hy1,hg,binOp,hq],.bool _⟩
   ·simp at he
  ·simp at he
 ·rename_i ti ia hm hn
  rw [hm] at hx
  rw [hn] at hy
  split at he
  ·rename_i sz by' z ty hr
   obtain ⟨d,hd1,hd2⟩:=ao hT hr rfl
   cases d <;> simp [au] at hd2
   have key:∃v,a.eval x=.iface ti v:=by
    generalize a.eval x=xv at hx
    cases hx
    exact ⟨_,rfl⟩
   obtain ⟨xv,hp⟩:=key
   have hy1:a.eval y=.nilIface:=by
    generalize a.eval y=yv at hy
    cases hy
    rfl
   have hq:(Op.equal t (.iface ti xv) .nilIface).run P Ω.w=.ok false Ω.w:=by
    unfold Op.equal Op.maxDepth Op.equalIn
    simp only [Sem.run_bind,an hd1,Result.andThen_ok]
    rfl
   have hg:(eqGuard op t x y (.iface ti xv) .nilIface).run P Ω.w=.ok () Ω.w:=by
    cases op <;> rfl
   split at he
   ·simp only [Xs] at he
    subst he
    exact ⟨rfl,.bool false,by simp [execOp,hop,hp,hy1,hg,binOp,hq],.bool _⟩
   ·simp only [Xs] at he
    subst he
    exact ⟨rfl,.bool true,by simp [execOp,hop,hp,hy1,hg,binOp,hq],.bool _⟩
   ·simp at he
  ·simp at he
 ·rename_i hm hn
  rw [hm] at hx
  rw [hn] at hy
  split at he
  ·rename_i sz by' z ty yc hr
   obtain ⟨d,hd1,hd2⟩:=ao hT hr rfl
   cases d <;> simp [au] at hd2
   have hp:a.eval x=.nilIface:=by
    generalize a.eval x=xv at hx
    cases hx
    rfl
   have hy1:a.eval (.const yc)=.nilIface:=by
    generalize a.eval (.const yc)=yv at hy
    cases hy
    rfl
   have hq:(Op.equal t .nilIface .nilIface).run P Ω.w=.ok true Ω.w:=by
    unfold Op.equal Op.maxDepth Op.equalIn
    simp only [Sem.run_bind,an hd1,Result.andThen_ok]
    rfl
   have hg:(eqGuard op t x (.const yc) .nilIface .nilIface).run P Ω.w=.ok () Ω.w:=by
    cases op <;> first | rfl | (simp [eqGuard]) | (cases x <;> rfl)
   split at he
   ·simp only [Xs] at he
    subst he
    exact ⟨rfl,.bool true,by simp [execOp,hop,hp,hy1,hg,binOp,hq],.bool _⟩
   ·simp only [Xs] at he
    subst he
    exact ⟨rfl,.bool false,by simp [execOp,hop,hp,hy1,hg,binOp,hq],.bool _⟩
   ·simp at he
  ·simp at he
 ·rename_i hm hn
  rw [hm] at hx
  rw [hn] at hy
  split at he
  ·rename_i kt e sz by' z ty yc hr
   obtain ⟨d,hd1,hd2⟩:=ao hT hr rfl
   cases d <;> simp [au] at hd2
   have hy1:a.eval (.const yc)=.map none:=by
    generalize a.eval (.const yc)=yv at hy
    cases hy
    rfl
   have hq:∀p,(Op.equal t (.map p) (.map none)).run P Ω.w=.ok p.isNone Ω.w:=by
    intro p
    unfold Op.equal Op.maxDepth Op.equalIn
    simp only [Sem.run_bind,an hd1,Result.andThen_ok]
    cases p <;> rfl
   have hg:∀p,(eqGuard op t x (.const yc) (.map p) (.map none)).run P Ω.w=.ok () Ω.w:=by
    intro p
    cases op <;> first | rfl | (simp [eqGuard]) | (cases x <;> rfl)
   obtain ⟨p,hp,hpn⟩:∃p,a.eval x=.map p/\p.isNone=true:=by
    generalize a.eval x=xv at hx
    cases hx
    exact ⟨_,rfl,rfl⟩
   split at he
   ·simp only [Xs] at he
    subst he
    exact ⟨rfl,.bool p.isNone,by simp [execOp,hop,hp,hy1,hg,binOp,hq],by rw [hpn];exact .bool _⟩
   ·simp only [Xs] at he
    subst he
    exact ⟨rfl,.bool (!p.isNone),by simp [execOp,hop,hp,hy1,hg,binOp,hq],by rw [hpn];exact .bool _⟩
   ·simp at he
  ·simp at he
 ·rename_i mi hm hn
  rw [hm] at hx
  rw [hn] at hy
  split at he
  ·rename_i kt e sz by' z ty yc hr
   obtain ⟨d,hd1,hd2⟩:=ao hT hr rfl
   cases d <;> simp [au] at hd2
   have hy1:a.eval (.const yc)=.map none:=by
    generalize a.eval (.const yc)=yv at hy
    cases hy
    rfl
   have hq:∀p,(Op.equal t (.map p) (.map none)).run P Ω.w=.ok p.isNone Ω.w:=by
    intro p
    unfold Op.equal Op.maxDepth Op.equalIn
    simp only [Sem.run_bind,an hd1,Result.andThen_ok]
    cases p <;> rfl
   have hg:∀p,(eqGuard op t x (.const yc) (.map p) (.map none)).run P Ω.w=.ok () Ω.w:=by
    intro p
    cases op <;> first | rfl | (simp [eqGuard]) | (cases x <;> rfl)
   obtain ⟨p,hp,hpn⟩:∃p,a.eval x=.map p/\p.isNone=false:=by
    generalize a.eval x=xv at hx
    cases hx
    exact ⟨_,rfl,rfl⟩
   split at he
   ·simp only [Xs] at he
    subst he
    exact ⟨rfl,.bool p.isNone,by simp [execOp,hop,hp,hy1,hg,binOp,hq],by rw [hpn];exact .bool _⟩
   ·simp only [Xs] at he
    subst he
    exact ⟨rfl,.bool (!p.isNone),by simp [execOp,hop,hp,hy1,hg,binOp,hq],by rw [hpn];exact .bool _⟩
   ·simp at he
  ·simp at he
 ·rename_i hm hn
  rw [hm] at hx
  rw [hn] at hy
  split at he
  ·rename_i e sz by' z ty yc hr
   obtain ⟨d,hd1,hd2⟩:=ao hT hr rfl
   cases d <;> simp [au] at hd2
   have hy1:a.eval (.const yc)=.slice none 0 0:=by
    generalize a.eval (.const yc)=yv at hy
    cases hy
    rfl
   have hq:∀p n c,(Op.equal t (.slice p n c) (.slice none 0 0)).run P Ω.w=.ok p.isNone Ω.w:=by
    intro p n c
    unfold Op.equal Op.maxDepth Op.equalIn
    simp only [Sem.run_bind,an hd1,Result.andThen_ok]
    cases p <;> rfl
   have hg:∀p n c,(eqGuard op t x (.const yc) (.slice p n c) (.slice none 0 0)).run P Ω.w=.ok () Ω.w:=by
    intro p n c
    cases op <;> first | rfl | (simp [eqGuard]) | (cases x <;> rfl)
   have hp:a.eval x=.slice none 0 0:=by
    generalize a.eval x=xv at hx
    cases hx
    rfl
   split at he
   ·simp only [Xs] at he
    subst he
    exact ⟨rfl,.bool true,by simp [execOp,hop,hp,hy1,hg,binOp,hq],.bool _⟩
   ·simp only [Xs] at he
    subst he
    exact ⟨rfl,.bool false,by simp [execOp,hop,hp,hy1,hg,binOp,hq],.bool _⟩
   ·simp at he
  ·simp at he
 ·rename_i τ ys o2 hm hn
  rw [hm] at hx
  rw [hn] at hy
  split at he
  ·rename_i e sz by' z ty yc hr
   obtain ⟨d,hd1,hd2⟩:=ao hT hr rfl
   cases d <;> simp [au] at hd2
   have hy1:a.eval (.const yc)=.slice none 0 0:=by
    generalize a.eval (.const yc)=yv at hy
    cases hy
    rfl
   have hq:∀p n c,(Op.equal t (.slice p n c) (.slice none 0 0)).run P Ω.w=.ok p.isNone Ω.w:=by
    intro p n c
    unfold Op.equal Op.maxDepth Op.equalIn
    simp only [Sem.run_bind,an hd1,Result.andThen_ok]
    cases p <;> rfl
   have hg:∀p n c,(eqGuard op t x (.const yc) (.slice p n c) (.slice none 0 0)).run P Ω.w=.ok () Ω.w:=by
    intro p n c
    cases op <;> first | rfl | (simp [eqGuard]) | (cases x <;> rfl)
   have key:ys.length≠0→∃q n c,a.eval x=.slice (some q) n c:=by
    intro hne
    generalize a.eval x=xv at hx
    cases hx with
    | lstNil _ _ _=>exact absurd rfl hne
    | lstVoid _ _=>exact absurd rfl hne
    | lst _ _ _ b off cap vals h1 h2 tok hc hv=>exact ⟨_,_,_,rfl⟩
   split at he
   ·simp only [Xs] at he
    subst he
    obtain ⟨q,n,c,hp⟩:=key ho
    exact ⟨rfl,.bool false,by simp [execOp,hop,hp,hy1,hg,binOp,hq],.bool _⟩
   ·simp only [Xs] at he
    subst he
    obtain ⟨q,n,c,hp⟩:=key ho
    exact ⟨rfl,.bool true,by simp [execOp,hop,hp,hy1,hg,binOp,hq],.bool _⟩
   ·simp at he
  ·simp at he
 ·split at he
  ·rename_i cs ds hc hd
   obtain ⟨xs,hxv,hxl⟩:=gl hx hc
   obtain ⟨ys,hyv,hyl⟩:=gl hy hd
   exact xI hT hop hxl hxv hyl hyv he
  ·simp at he
theorem xJ {op:UnOp} {t:Nat} {x:Operand} (hop:o.op=.unOp op t x):bg P C o:=by
 refine bg.pure fun F s a Ω eff h he ho=>?_
 simp only [aj,hop] at he
 have hx:=aF h x
 split at he
 ·rename_i b hb
  rw [hb] at hx
  simp only [Xs] at he
  subst he
  exact ⟨rfl,.bool (!b),by simp [execOp,hop,hx.bool_inv,Op.unary],.bool _⟩
 ·rename_i k n hn
  rw [hn] at hx
  simp only [Xs] at he
  subst he
  obtain ⟨h1,h2⟩:=ho
  have e:=fy k _ h1 h2
  exact ⟨rfl,.int k (0 - n),by simp only [execOp,hop,hx.int_inv.1,Op.unary,Op.intArith,e];simp,.int k _ h1 h2⟩
 ·simp at he
theorem fA {w:World} {b off:Nat} {f:Field} {i:TypeInfo} (hi:P.info? f.type=some i) (h0:i.size≠0) :
  (fieldPlace ⟨b,off,none⟩ f).run P w=.ok ⟨b,off+f.offset,none⟩ w:=by
 simp only [fieldPlace,Sem.run_bind,bF hi,Result.andThen_ok]
 rw [if_neg h0]
 simp [Addr.add]
theorem gW (hT:aE P C.tbl) {t:Nat} {r:TR} (hr:aq C.tbl t=some r) {f off ft:Nat} (hf:lp r f=some (off,ft)) :
  ∃fields fd i,P.underlying t=some (.struct fields)/\fields[f]?=some fd/\fd.offset=off/\fd.type=ft/\P.info? ft=some i/\i.size≠0:=by
 unfold lp at hf
 split at hf
 ·rename_i fs hti
  obtain ⟨d,hd1,hd2⟩:=ao hT hr hti
  cases d <;> simp [au] at hd2
  rename_i fields
  obtain ⟨h1,h2⟩:=hd2
  rw [fL,←h1] at hf
  simp only [List.getElem?_map,Array.getElem?_toList,Option.map_eq_some_iff] at hf
  obtain ⟨fd,hfd,e⟩:=hf
  simp at e
  have hm:fd∈fields:=Array.mem_of_getElem? hfd
  obtain ⟨j,hj,hje⟩:=Array.mem_iff_getElem.1 hm
  have:=h2 j hj
  rw [hje] at this
  split at this
  ·rename_i i hi
   exact ⟨fields,fd,i,hd1,hfd,e.1,e.2,by rw [←e.2];exact hi,fun h0=>by simp [h0] at this⟩
  ·simp at this
 ·simp at hf
theorem pj (hT:aE P C.tbl) {t f:Nat} {x:Operand} (hop:o.op=.fieldAddr t x f):bg P C o:=by
 refine bg.pure fun F s a Ω eff h he ho=>?_
 simp only [aj,hop] at he
 have hx:=aF h x
 split at he
 ·rename_i r hr
  split at he
  ·rename_i off ft id o' hf hopd
   simp only [Xs] at he
   subst he
   rw [hopd] at hx
   obtain ⟨b,bo,len,hxv,hxb⟩:=hx.ptr_inv
   obtain ⟨fields,fd,i,h1,h2,h3,h4,h5,h6⟩:=gW hT hr hf
   refine ⟨rfl,.pointer (some ⟨b,bo+o'+off,none⟩),?_,?_⟩
   ·simp [execOp,hop,hxv,Instr.fieldAt,an h1,h2,Instr.sureAddr,fA (P:=P) (w:=Ω.w) (b:=b) (off:=bo+o') (f:=fd) (by rw [h4];exact h5) h6,h3]
   ·have:=V.ptr (Ω:=Ω) id (o'+off) b bo len hxb
    rwa [←Nat.add_assoc] at this
  ·rename_i off ft id n w o' hf hopd
   simp only [Xs] at he
   subst he
   rw [hopd] at hx
   obtain ⟨b,bo,len,hxv,hxb⟩:=hx.aptr_inv
   obtain ⟨fields,fd,i,h1,h2,h3,h4,h5,h6⟩:=gW hT hr hf
   refine ⟨rfl,.pointer (some ⟨b,bo+(n *w+o')+off,none⟩),?_,?_⟩
   ·simp [execOp,hop,hxv,Instr.fieldAt,an h1,h2,Instr.sureAddr,fA (P:=P) (w:=Ω.w) (b:=b) (off:=bo+(n *w+o')) (f:=fd) (by rw [h4];exact h5) h6,h3]
   ·have:=V.aptr (Ω:=Ω) id n w (o'+off) b bo len hxb
    have e:bo+(n *w+o')+off=bo+(n *w+(o'+off)):=by omega
    rw [e]
    exact this
  ·rename_i off ft k s1 n w o' hf hopd
   simp only [Xs] at he
   subst he
   rw [hopd] at hx
   obtain ⟨b,hxv,hxb⟩:=hx.gptr_inv
   obtain ⟨fields,fd,i,h1,h2,h3,h4,h5,h6⟩:=gW hT hr hf
   refine ⟨rfl,.pointer (some ⟨b,n *w+o'+off,none⟩),?_,?_⟩
   ·simp [execOp,hop,hxv,Instr.fieldAt,an h1,h2,Instr.sureAddr,fA (P:=P) (w:=Ω.w) (b:=b) (off:=n *w+o') (f:=fd) (by rw [h4];exact h5) h6,h3]
   ·have:=V.gptr (Ω:=Ω) k s1 n w (o'+off) b hxb
    have e:n *w+o'+off=n *w+(o'+off):=by omega
    rw [e]
    exact this
  ·rename_i off ft c hf hopd
   rw [hopd] at hx
   obtain ⟨fields,fd,i,h1,h2,h3,h4,h5,h6⟩:=gW hT hr hf
   have cI:∀{c':AV},V Ω (.cptr c) (a.eval x)→(∃n,(a8 c').length<=n/\sub (a8 c) off (a8 c').length=some (a8 c'))→
     eff=.pure (.cptr c')→eff.upd=[]/\∃v,(execOp a.eval o).run P Ω.w=.ok (.value v) Ω.w/\V Ω eff.val v:=by
    intro c' hx hs he
    obtain ⟨_,_,hs⟩:=hs
    subst he
    obtain ⟨s1,s2⟩:=eR hs
    generalize hxe:a.eval x=xv at hx
    cases hx with
    | cptr _ b o' vals k1 k2=>
     refine ⟨rfl,.pointer (some ⟨b,o'+off,none⟩),?_,?_⟩
     ·simp [execOp,hop,hxe,Instr.fieldAt,an h1,h2,Instr.sureAddr,fA (P:=P) (w:=Ω.w) (b:=b) (off:=o') (f:=fd) (by rw [h4];exact h5) h6,h3]
     ·simp only [Eff.pure]
      have key:∀(j:Nat) (d:AV),(a8 c')[j]?=some d→(a8 c)[off+j]?=some d:=by
       intro j d hd
       rw [s2,List.getElem?_take] at hd
       split at hd
       ·rwa [List.getElem?_drop] at hd
       ·cases hd
      refine .cptr _ b _ (fun j=>vals (off+j)) (fun j d hd=>?_) (fun j d hd=>k2 _ _ (key j d hd))
      have:=k1 _ _ (key j d hd)
      rwa [←Nat.add_assoc] at this
   have drops:∀{c1:AV} {r1:List AV},iM (a8 c) off=some (c1 ::r1)→∃n,(a8 (.agg (c1 ::r1))).length<=n/\sub (a8 c) off (a8 (.agg (c1 ::r1))).length=some (a8 (.agg (c1 ::r1))):=by
    intro c1 r1 hdr
    exact ⟨_,Nat.le_refl _,qk hdr⟩
   split at he
   ·rename_i n y m hrt hft
    split at he
    ·rename_i m' z hz
     split at he
     ·rename_i hm
      simp only [Xs] at he
      refine cI hx ⟨_,Nat.le_refl _,?_⟩ he.symm
      have hs:=gU hz
      rw [←az] at hs
      exact hs
     ·simp at he
    ·split at he
     ·rename_i hdr
      simp only [Xs] at he
      exact cI hx (drops hdr) he.symm
     ·simp at he
   ·split at he
    ·rename_i hdr
     simp only [Xs] at he
     exact cI hx (drops hdr) he.symm
    ·simp at he
  ·simp at he
 ·simp at he
theorem w5 {w:World} {t:Nat} {r:TR} (ht:TF P t r) {cs ds:List AV} {x:AV} {off:Nat} {Ω:Om} {vs:List Value} (hv:VL Ω cs vs)
  (hs:sub cs off r.size=some ds) (ho:bZ r ds=some x):∃v,(part t vs.toArray off).run P w=.ok v w/\V Ω x v:=by
 have hd:=hv.sub hs
 obtain ⟨s1,s2⟩:=eR hs
 unfold bZ at ho
 simp only [part,Sem.run_bind,ht.agg,Result.andThen_ok]
 split at ho
 ·rename_i hagg
  simp at ho
  subst ho
  rw [hagg]
  simp only [if_true,Sem.run_bind,ht.size,Result.andThen_ok]
  refine ⟨_,rfl,?_⟩
  have e:vs.toArray.extract off (off+r.size)=((vs.drop off).take r.size).toArray:=by
   apply Array.ext'
   simp [List.extract_eq_take_drop]
  rw [e]
  exact V.of_agg hd
 ·rename_i hagg
  have hagg':r.isAgg=false:=by simpa using hagg
  rw [hagg']
  split at ho
  ·rename_i c
   simp at ho
   subst ho
   have hl:=hd.1
   generalize hds:(vs.drop off).take r.size=us at hd hl
   cases us with
   | nil=>simp at hl
   | cons v us=>
    cases us with
    | cons _ _=>simp at hl
    | nil=>
     have hv0:vs[off]?=some v:=by
      have e1:((vs.drop off).take r.size)[0]?=some v:=by rw [hds];rfl
      rw [List.getElem?_take] at e1
      split at e1
      ·rw [List.getElem?_drop] at e1;simpa using e1
      ·simp at e1
     exact ⟨v,by simp [hv0],hd.head⟩
  ·simp at ho
theorem w6 (hT:aE P C.tbl) {t f:Nat} {x:Operand} (hop:o.op=.field t x f):bg P C o:=by
 refine bg.pure fun F s a Ω eff h he ho=>?_
 simp only [aj,hop] at he
 have hx:=aF h x
 split at he
 ·rename_i r hr
  split at he
  ·rename_i off ft hf
   obtain ⟨fields,fd,i,h1,h2,h3,h4,h5,h6⟩:=gW hT hr hf
   have go:∀{rt:TR} {c:AV} {vs:List Value},aq C.tbl ft=some rt→a.eval x=.agg vs.toArray→VL Ω (a8 c) vs→(gN rt c off).map Eff.pure=some eff→
     eff.upd=[]/\∃v,(execOp a.eval o).run P Ω.w=.ok (.value v) Ω.w/\V Ω eff.val v:=by
    intro rt c vs hrt hxv hvl he
    simp only [Option.map_eq_some_iff] at he
    obtain ⟨av,ho1,rfl⟩:=he
    obtain ⟨ds,z,q1,q2,q3⟩:=kJ (hT ft rt hrt) ho1
    obtain ⟨v,hv1,hv2⟩:=w5 (P:=P) (w:=Ω.w) (hT ft rt hrt).tf hvl q1 q2
    exact ⟨rfl,v,by simp [execOp,hop,hxv,Instr.field,an h1,h2,asAgg,h4,h3,hv1],q3 _ _ hv2⟩
   split at he
   ·rename_i rt cs hrt hopd
    rw [hopd] at hx
    obtain ⟨vs,hxv,hvl⟩:=hx.agg_inv
    exact go (c:=.agg cs) hrt hxv hvl he
   ·rename_i rt n y hrt hopd
    rw [hopd] at hx
    split at he
    ·generalize hxe:a.eval x=xv at hx
     cases hx with
     | st _ _ _ hx=>
      obtain ⟨vs,hxv,hvl⟩:=hx.agg_inv
      exact go (c:=.st n y) hrt (by rw [hxe,hxv]) hvl he
    ·simp at he
   ·simp at he
  ·simp at he
 ·simp at he
end
end Go.AL
end
noncomputable section
namespace Go.AL
variable [Tabs]
section
variable {P:Program} {C:Cfg} {o:Oper}
theorem dE {τ σ:Ty} {xs:List (den τ)} {ys:List (den σ)} (h:cM τ σ xs=some ys):∃e:τ=σ,e ▸ xs=ys:=by
 unfold cM at h
 split at h
 ·rename_i e;simp at h;exact ⟨e,h⟩
 ·simp at h
theorem cw {k:IntKind} {n:Int}:asIntOf (.int k n)=pure (k,n):=rfl
theorem V.lst_inv {Ω:Om} {τ:Ty} {xs:List (den τ)} {o:Option Nat} {v:Value} (h:V Ω (.lst τ xs o) v) :
  (xs=[]/\v=.slice none 0 0/\ez Ω o 0 v)∨(xs=[]/\o=none/\∃a,v=.slice (some a) 0 0)∨
  ∃b off cap,∃vals:Nat→Nat→Value,v=.slice (some ⟨b,off,none⟩) xs.length cap/\xs.length<=cap/\cap<=aM/\ez Ω o xs.length v/\
   (∀(i:Nat) (x:den τ),xs[i]?=some x→∀(j:Nat) (c:AV),(cells τ x)[j]?=some c→
    Ω.pub b (off+(i *a7 τ+j))/\Ω.w.cell? ⟨b,off+(i *a7 τ+j),none⟩=some (vals i j))/\
   (∀(i:Nat) (x:den τ),xs[i]?=some x→∀(j:Nat) (c:AV),(cells τ x)[j]?=some c→V Ω c (vals i j)):=by
 cases h with
 | lstNil _ _ ht=>exact Or.inl ⟨rfl,rfl,ht⟩
 | lstVoid _ a=>exact Or.inr (Or.inl ⟨rfl,rfl,a,rfl⟩)
 | lst _ _ _ b off cap vals h1 h2 h3 h4 h5=>exact Or.inr (Or.inr ⟨b,off,cap,vals,rfl,h1,h2,h3,h4,h5⟩)
theorem V.elem {Ω:Om} {τ:Ty} {xs:List (den τ)} {b off:Nat} {vals:Nat→Nat→Value} (i:Nat) (hi:i < xs.length)
  (h4:∀(i:Nat) (x:den τ),xs[i]?=some x→∀(j:Nat) (c:AV),(cells τ x)[j]?=some c→
    Ω.pub b (off+(i *a7 τ+j))/\Ω.w.cell? ⟨b,off+(i *a7 τ+j),none⟩=some (vals i j))
  (h5:∀(i:Nat) (x:den τ),xs[i]?=some x→∀(j:Nat) (c:AV),(cells τ x)[j]?=some c→V Ω c (vals i j)) (d:den τ) :
  V Ω (.cptr (inj τ (xs.getD i d))) (.pointer (some ⟨b,off+i *a7 τ,none⟩)):=by
 have e:xs[i]?=some (xs.getD i d):=by simp [List.getD_eq_getElem?_getD,hi]
 refine .cptr _ b _ (fun j=>vals i j) (fun j c hc=>?_) (fun j c hc=>h5 i _ e j c (by rwa [eU] at hc))
 rw [eU] at hc
 have:=h4 i _ e j c hc
 rw [Nat.add_assoc]
 exact this
theorem pk (hT:aE P C.tbl) {t:Nat} {x y:Operand} (hop:o.op=.indexAddr t x y):bg P C o:=by
 refine bg.pure fun F s a Ω eff h he ho=>?_
 simp only [aj,hop] at he
 have hx:=aF h x
 have hy:=aF h y
 split at he
 ·rename_i e sz by' z ty τ xs o' k n hr hopx hopy
  rw [hopx] at hx
  rw [hopy] at hy
  split at he
  ·rename_i re hre
   split at he
   ·rename_i hty
    simp only [Xs] at he
    subst he
    obtain ⟨ho1,ho2⟩:=ho
    obtain ⟨d,hd1,hd2⟩:=ao hT hr rfl
    cases d <;> simp [au] at hd2
    subst hd2
    obtain ⟨i,zz,i1,i2,i3,i4,i5⟩:=(hT _ _ hre).info
    have hw:=((hT _ _ hre).ty τ hty).1
    obtain ⟨hy1,hy2⟩:=hy.int_inv
    rcases hx.lst_inv with ⟨h1,_,_⟩ | ⟨h1,_,_⟩ | ⟨b,off,cap,vals,hv,h1,h2,h3,h4,h5⟩
    ·subst h1
     simp at ho2
     omega
    ·subst h1
     simp at ho2
     omega
    ·refine ⟨rfl,.pointer (some ⟨b,off+n.toNat *a7 τ,none⟩),?_,V.elem n.toNat (by omega) h4 h5 _⟩
     have c1:(0<=n/\n < (xs.length:Int)):=⟨ho1,ho2⟩
     simp [execOp,hop,hv,hy1,Instr.indexAt,cw,an hd1,c1,bF i1,i2,←hw,Addr.add]
   ·simp at he
  ·simp at he
 ·rename_i e sz by' z ty id m w k n hr hopx hopy
  rw [hopx] at hx
  rw [hopy] at hy
  split at he
  ·rename_i re hre
   split at he
   ·rename_i hty
    subst hty
    simp only [Xs] at he
    subst he
    obtain ⟨ho1,ho2⟩:=ho
    obtain ⟨d,hd1,hd2⟩:=ao hT hr rfl
    cases d <;> simp [au] at hd2
    subst hd2
    obtain ⟨i,zz,i1,i2,i3,i4,i5⟩:=(hT _ _ hre).info
    obtain ⟨hy1,hy2⟩:=hy.int_inv
    generalize hxe:a.eval x=xv at hx
    cases hx with
    | arr _ _ _ b len cap a' he hl hc1 hc2 hc3=>
     rcases hc3 with rfl | ⟨_,h0,_⟩
     rotate_left
     ·omega
     refine ⟨rfl,.pointer (some ⟨b,n.toNat *re.size,none⟩),?_,?_⟩
     ·have c1:(0<=n/\n < (m:Int)):=⟨ho1,ho2⟩
      simp [execOp,hop,hxe,hy1,Instr.indexAt,cw,an hd1,c1,bF i1,i2,Addr.add]
      exact fun h0=>h0.symm
     ·have:=V.aptr (Ω:=Ω) id n.toNat re.size 0 b 0 len he
      simpa using this
   ·simp at he
  ·simp at he
 ·rename_i e sz by' z ty s1 m k k' n hr hopx hopy
  rw [hopx] at hx
  rw [hopy] at hy
  split at he
  ·rename_i re hre
   simp only [Xs] at he
   subst he
   obtain ⟨ho1,ho2⟩:=ho
   obtain ⟨d,hd1,hd2⟩:=ao hT hr rfl
   cases d <;> simp [au] at hd2
   subst hd2
   obtain ⟨i,zz,i1,i2,i3,i4,i5⟩:=(hT _ _ hre).info
   obtain ⟨hy1,hy2⟩:=hy.int_inv
   generalize hxe:a.eval x=xv at hx
   cases hx with
   | glst _ _ _ cap a' hc1 hc2 hc3 hst=>
    rcases hc3 with ⟨b,rfl⟩ | ⟨_,h0,_⟩
    rotate_left
    ·omega
    refine ⟨rfl,.pointer (some ⟨b,n.toNat *re.size,none⟩),?_,?_⟩
    ·have c1:(0<=n/\n < (m:Int)):=⟨ho1,ho2⟩
     simp [execOp,hop,hxe,hy1,Instr.indexAt,cw,an hd1,c1,bF i1,i2,Addr.add]
     exact fun h0=>h0.symm
    ·have:=V.gptr (Ω:=Ω) k s1 n.toNat re.size 0 b (by
      obtain ⟨mm,base,c,q1,q2,q3⟩:=hst
      refine ⟨mm,base,c,q1,q2,fun e=>?_⟩
      obtain ⟨q4,_⟩:=q3 e
      cases base with
      | none=>cases q4
      | some b'=>cases q4;rfl)
     simpa using this
  ·simp at he
 ·rename_i e sz by' z ty τ xs k k' n hr hopx hopy
  rw [hopx] at hx
  rw [hopy] at hy
  split at he
  ·rename_i re hre
   split at he
   ·rename_i hty
    simp only [Xs] at he
    subst he
    have ho1:n=(xs.length:Int):=ho
    obtain ⟨d,hd1,hd2⟩:=ao hT hr rfl
    cases d <;> simp [au] at hd2
    subst hd2
    obtain ⟨i,zz,i1,i2,i3,i4,i5⟩:=(hT _ _ hre).info
    have hw:=((hT _ _ hre).ty τ hty).1
    obtain ⟨hy1,hy2⟩:=hy.int_inv
    generalize hxe:a.eval x=xv at hx
    cases hx with
    | lstp _ _ _ b off cap vals h1 h2 h3 h4 h5=>
     refine ⟨rfl,.pointer (some ⟨b,off+xs.length *a7 τ,none⟩),?_,.tptr τ xs.length k _ ?_⟩
     ·have c1:(0<=n/\n < ((xs.length+1:Nat):Int)):=⟨by omega,by omega⟩
      have c2:n.toNat=xs.length:=by omega
      have c3:n < (xs.length:Int)+1:=by omega
      simp [execOp,hop,hxe,hy1,Instr.indexAt,cw,an hd1,c1,c2,bF i1,i2,←hw,Addr.add,c3]
     ·obtain ⟨m,base,cap',r1,r2,r3⟩:=h3 k rfl
      refine ⟨m,base,cap',r1,r2,fun e=>?_⟩
      have:=r3 e
      cases base with
      | none=>simp [bT] at this
      | some b'=>
       simp only [bT,Value.slice.injEq,Xs,Addr.mk.injEq,true_and,and_true] at this
       obtain ⟨⟨rfl,rfl⟩,_⟩:=this
       exact ⟨b,rfl,by simp⟩
   ·simp at he
  ·simp at he
 ·rename_i e m sz by' z ty id k n hr hopx hopy
  rw [hopx] at hx
  rw [hopy] at hy
  split at he
  ·rename_i re hre
   simp only [Xs] at he
   subst he
   obtain ⟨ho1,ho2⟩:=ho
   obtain ⟨d,hd1,hd2⟩:=ao hT hr rfl
   cases d <;> simp [au] at hd2
   obtain ⟨rfl,rfl⟩:=hd2
   obtain ⟨i,zz,i1,i2,i3,i4,i5⟩:=(hT _ _ hre).info
   obtain ⟨hy1,hy2⟩:=hy.int_inv
   generalize hxe:a.eval x=xv at hx
   cases hx with
   | ptr _ _ b o len he=>
    refine ⟨rfl,.pointer (some ⟨b,o+n.toNat *re.size,none⟩),?_,?_⟩
    ·have c1:(0<=n/\n < (m:Int)):=⟨ho1,ho2⟩
     simp [execOp,hop,hxe,hy1,Instr.indexAt,Instr.sureAddr,cw,an hd1,c1,bF i1,i2,Addr.add]
    ·have:=V.aptr (Ω:=Ω) id n.toNat re.size 0 b o len he
     simpa using this
  ·simp at he
 ·simp at he
theorem w7 (hT:aE P C.tbl) {t:Nat} {x y:Operand} (hop:o.op=.index t x y):bg P C o:=by
 refine bg.pure fun F s a Ω eff h he ho=>?_
 simp only [aj,hop] at he
 have hx:=aF h x
 have hy:=aF h y
 split at he
 ·rename_i sz by' z ty s' k n hr hopx hopy
  rw [hopx] at hx
  rw [hopy] at hy
  simp only [Xs] at he
  subst he
  obtain ⟨ho1,ho2⟩:=ho
  obtain ⟨d,hd1,hd2⟩:=ao hT hr rfl
  cases d <;> simp [au] at hd2
  obtain ⟨hy1,hy2⟩:=hy.int_inv
  obtain ⟨hx1,hx2⟩:=hx.str_inv
  have hlt:n.toNat < s'.length:=by omega
  have hb:(⟨s'.toArray⟩:ByteArray)[n.toNat]?=some s'[n.toNat]:=by
   have e:n.toNat < (⟨s'.toArray⟩:ByteArray).size:=by simpa [ByteArray.size] using hlt
   exact getElem?_pos (⟨s'.toArray⟩:ByteArray) n.toNat e
  refine ⟨rfl,.int .u8 (s'[n.toNat].toNat:Int),?_,?_⟩
  ·simp only [execOp,hop,hx1,hy1,Instr.index,cw,Sem.run_bind,Sem.run_pure,Result.andThen_ok,an hd1]
   rw [if_pos ho1,hb]
   rfl
  ·have e:s'.getD n.toNat 0=s'[n.toNat]:=by simp [List.getD_eq_getElem?_getD,hlt]
   rw [e]
   refine .int .u8 _ ?_ ?_
   ·simp [IntKind.min,IntKind.signed]
   ·have:=s'[n.toNat].toNat_lt
    simp [IntKind.max,IntKind.signed,IntKind.bits]
    omega
 ·simp at he
theorem fM {F:Fr} {s:AS} {a:Act} {Ω:Om} (h:Holds F s a Ω) {x:Option Operand} {n:Option Int} (hb:bnd s.T x=some n) :
  ∃k:IntKind,x.map a.eval=n.map fun n=>.int k n:=by
 cases x with
 | none=>simp [bnd] at hb;subst hb;exact ⟨.i64,rfl⟩
 | some x=>
  simp only [bnd] at hb
  split at hb
  ·rename_i m hm
   simp at hb
   subst hb
   have:=aF h x
   rw [hm] at this
   exact ⟨.i64,by simp [this.int_inv.1]⟩
  ·rename_i m hm
   simp at hb
   subst hb
   have:=aF h x
   rw [hm] at this
   exact ⟨.u64,by simp [this.int_inv.1]⟩
  ·simp at hb
theorem iB {w:World} {n:Int} {k:IntKind} {y:Nat} {code:BoundsCode} (h0:0<=n) (h1:n<=(y:Int)):(Instr.sliceBound (.int k n) y code).run P w=.ok n.toNat w:=by
 simp [Instr.sliceBound,cw,h0,h1]
theorem fa {w:World} {isSlice:Bool} {len cap:Nat} {l h:Option Int} {kl kh:IntKind} (hl:0<=l.getD 0) (hlh:l.getD 0<=h.getD len) (hh:h.getD len<=len) (hc:len<=cap) :
  (Instr.sliceBounds isSlice len cap (l.map fun n=>.int kl n) (h.map fun n=>.int kh n) none).run P w=
   .ok ((l.getD 0).toNat,(h.getD len).toNat,cap) w:=by
 cases l <;> cases h <;> simp [Instr.sliceBounds] at *<;> (try simp [iB, *])
 ·rename_i h'
  have:(h':Int)<=cap:=by omega
  rw [iB hlh this]
  simp
 ·rename_i l' h'
  have:(h':Int)<=cap:=by omega
  rw [iB (by omega) this]
  simp
  rw [iB hl (by omega)]
  simp
theorem s4 (hT:aE P C.tbl) {t:Nat} {x:Operand} {lo hi:Option Operand} (hop:o.op=.slice t x lo hi none) {F:Fr} {s:AS} {a:Act} {Ω:Om} {eff:Eff} (h:Holds F s a Ω)
  (he:rV C t (opd s.T x) (bnd s.T lo) (bnd s.T hi)=some eff) (ho:eff.asks):eff.upd=[]/\∃v,(execOp a.eval o).run P Ω.w=.ok (.value v) Ω.w/\V Ω eff.val v:=by
 simp only [rV] at he
 have hx:=aF h x
 split at he
 ·rename_i sz by' z ty s' l u hr hopx hlo hhi
  rw [hopx] at hx
  simp only [Xs] at he
  subst he
  obtain ⟨ho1,ho2,ho3⟩:=ho
  obtain ⟨d,hd1,hd2⟩:=ao hT hr rfl
  cases d <;> simp [au] at hd2
  obtain ⟨hx1,hx2⟩:=hx.str_inv
  obtain ⟨kl,ekl⟩:=fM h hlo
  obtain ⟨kh,ekh⟩:=fM h hhi
  have hb:=fa (P:=P) (w:=Ω.w) (kl:=kl) (kh:=kh) (isSlice:=false) (len:=s'.length) (cap:=s'.length) ho1 ho2 ho3 (Nat.le_refl _)
  have e:(⟨s'.toArray⟩:ByteArray).extract (l.getD 0).toNat (u.getD s'.length).toNat=⟨((s'.take (u.getD s'.length).toNat).drop (l.getD 0).toNat).toArray⟩:=by
   apply ByteArray.ext
   apply Array.ext'
   simp [List.extract_eq_take_drop,List.drop_take]
  refine ⟨rfl,.string ⟨((s'.take (u.getD s'.length).toNat).drop (l.getD 0).toNat).toArray⟩,?_,.str _ ?_⟩
  ·simp only [execOp,hop,hx1,Instr.sliceAt,Instr.slice,Sem.run_bind,an hd1,Result.andThen_ok,ekl,ekh,Option.map_none]
   simp only [Option.isSome_none,Bool.false_eq_true,if_false,Sem.run_bind]
   have hsz:(⟨s'.toArray⟩:ByteArray).size=s'.length:=rfl
   rw [hsz,hb]
   simp [e]
  ·have:((s'.take (u.getD s'.length).toNat).drop (l.getD 0).toNat).length<=s'.length:=by simp;omega
   omega
 ·rename_i e sz by' z ty τ xs o' l u hr hopx hlo hhi
  rw [hopx] at hx
  split at he
  ·rename_i re hre
   split at he
   ·rename_i hty
    simp only [Xs] at he
    subst he
    obtain ⟨ho1,ho2,ho3⟩:=ho
    obtain ⟨d,hd1,hd2⟩:=ao hT hr rfl
    cases d <;> simp [au] at hd2
    subst hd2
    obtain ⟨i,zz,i1,i2,i3,i4,i5⟩:=(hT _ _ hre).info
    have hw:=((hT _ _ hre).ty τ hty).1
    rcases hx.lst_inv with ⟨h1,hv,_⟩ | ⟨h1,_,a0,hv⟩ | ⟨b,off,cap,vals,hv,h1,h2,h3,h4,h5⟩
    rotate_left
    ·subst h1
     simp only [List.length_nil] at ho2 ho3
     have el:(l.getD 0).toNat=0:=by simp at ho2 ho3;omega
     have eu:(u.getD ((0:Nat):Int)).toNat=0:=by simp at ho2 ho3 ⊢;omega
     obtain ⟨kl,ekl⟩:=fM h hlo
     obtain ⟨kh,ekh⟩:=fM h hhi
     have hb:=fa (P:=P) (w:=Ω.w) (kl:=kl) (kh:=kh) (isSlice:=true) (len:=0) (cap:=0) ho1 ho2 ho3 (Nat.le_refl _)
     refine ⟨rfl,.slice (some a0) 0 0,?_,?_⟩
     ·simp only [execOp,hop,hv,Instr.sliceAt,Instr.slice,Sem.run_bind,an hd1,Result.andThen_ok,ekl,ekh,Option.map_none]
      rw [hb]
      simp only [el,eu,Result.andThen_ok,bF i1,Sem.run_pure]
      simp
     ·have e0:∀m n:Nat,(([]:List (den τ)).take m).drop n=[]:=by simp
      show V Ω (.lst τ _ none) _
      rw [e0]
      exact .lstVoid τ a0
    rotate_right
    ·subst h1
     simp only [List.length_nil] at ho2 ho3
     have el:(l.getD 0).toNat=0:=by simp at ho2 ho3;omega
     have eu:(u.getD ((0:Nat):Int)).toNat=0:=by simp at ho2 ho3 ⊢;omega
     obtain ⟨kl,ekl⟩:=fM h hlo
     obtain ⟨kh,ekh⟩:=fM h hhi
     have hb:=fa (P:=P) (w:=Ω.w) (kl:=kl) (kh:=kh) (isSlice:=true) (len:=0) (cap:=0) ho1 ho2 ho3 (Nat.le_refl _)
     refine ⟨rfl,.slice none 0 0,?_,?_⟩
     ·simp only [execOp,hop,hv,Instr.sliceAt,Instr.slice,Sem.run_bind,an hd1,Result.andThen_ok,ekl,ekh,Option.map_none]
      rw [hb]
      simp only [el,eu,Result.andThen_ok,bF i1,Sem.run_pure]
      simp
     ·have e0:∀m n:Nat,(([]:List (den τ)).take m).drop n=[]:=by simp
      show V Ω (.lst τ _ none) _
      rw [e0]
      exact .lstNil τ none (fun id hid=>by simp at hid)
    ·obtain ⟨kl,ekl⟩:=fM h hlo
     obtain ⟨kh,ekh⟩:=fM h hhi
     have hb:=fa (P:=P) (w:=Ω.w) (kl:=kl) (kh:=kh) (isSlice:=true) (len:=xs.length) (cap:=cap) ho1 ho2 ho3 h1
     generalize hln:(l.getD 0).toNat=ln at *
     generalize hun:(u.getD (xs.length:Int)).toNat=un at *
     have hle:ln<=un:=by omega
     have hue:un<=xs.length:=by omega
     have hlen:((xs.take un).drop ln).length=un - ln:=by simp;omega
     have hsz:i.size=a7 τ:=by rw [i2,←hw]
     have hget:∀(j:Nat) (y:den τ),((xs.take un).drop ln)[j]?=some y→xs[ln+j]?=some y:=by
      intro j y hj
      rw [List.getElem?_drop,List.getElem?_take] at hj
      split at hj
      ·exact hj
      ·simp at hj
     refine ⟨rfl,.slice (some (if cap=ln then ⟨b,off,none⟩ else ⟨b,off+ln *a7 τ,none⟩)) (un - ln) (cap - ln),?_,?_⟩
     ·simp only [execOp,hop,hv,Instr.sliceAt,Instr.slice,Sem.run_bind,an hd1,Result.andThen_ok,ekl,ekh,Option.map_none]
      rw [hb]
      simp [bF i1,hsz,Addr.add]
      split
      ·rfl
      ·simp
     ·by_cases hcl:cap=ln
      ·rw [if_pos hcl]
       have:un=ln:=by omega
       have hnil:(xs.take un).drop ln=[]:=List.eq_nil_of_length_eq_zero (by omega)
       rw [hnil]
       have:=V.lst (Ω:=Ω) τ [] none b off (cap - ln) (fun _ _=>undef) (by simp) (by omega) (fun id hid=>by simp at hid) (fun i x hx=>by simp at hx) (fun i x hx=>by simp at hx)
       simpa [show un - ln=0 from by omega] using this
      ·rw [if_neg hcl]
       rw [←hlen]
       refine .lst τ _ none b _ (cap - ln) (fun j=>vals (ln+j)) (by omega) (by omega) (fun id hid=>by simp at hid) (fun j y hj k c hc=>?_) (fun j y hj k c hc=>?_)
       ·have:=h4 _ y (hget j y hj) k c hc
        have e:off+ln *a7 τ+(j *a7 τ+k)=off+((ln+j) *a7 τ+k):=by rw [Nat.add_mul];omega
        rw [e]
        exact this
       ·exact h5 _ y (hget j y hj) k c hc
   ·simp at he
  ·simp at he
 ·simp at he
theorem s5 {x:Operand} {i:Nat} (hop:o.op=.extract x i):bg P C o:=by
 refine bg.pure fun F s a Ω eff h he ho=>?_
 simp only [aj,hop] at he
 have hx:=aF h x
 split at he
 ·rename_i cs hcs
  rw [hcs] at hx
  obtain ⟨vs,hv,hvl⟩:=hx.tup_inv
  simp only [Option.map_eq_some_iff] at he
  obtain ⟨c,hc,rfl⟩:=he
  rw [fL] at hc
  have hi:i < vs.length:=by
   rw [←hvl.1]
   rcases Nat.lt_or_ge i cs.length with k | k
   ·exact k
   ·rw [List.getElem?_eq_none k] at hc;simp at hc
  refine ⟨rfl,vs[i],?_,hvl.2 i c _ hc (List.getElem?_eq_getElem hi)⟩
  simp [execOp,hop,hv,Instr.extract,hi]
 ·simp at he
theorem fB {n:Nat} (h:n<=aM):IntKind.i64.min<=(n:Int)/\(n:Int)<=IntKind.i64.max:=by
 unfold aM at h
 simp [IntKind.min,IntKind.max,IntKind.signed,IntKind.bits]
 omega
theorem yN (hT:aE P C.tbl) {args:Array Operand} {ts:Array Nat} (hop:o.op=.call {callee:=.builtin .len,args:=args,argTypes:=ts}):bg P C o:=by
 refine bg.pure fun F s a Ω eff h he ho=>?_
 simp only [aj,hop,yF] at he
 split at he
 ·rename_i x t hargs hts
  have ha:args=#[x]:=by apply Array.ext';simpa using hargs
  have ht:ts=#[t]:=by apply Array.ext';simpa using hts
  subst ha ht
  have hx:=aF h x
  split at he
  ·rename_i sz by' z ty s' hr hopx
   rw [hopx] at hx
   simp only [Xs] at he
   subst he
   obtain ⟨d,hd1,hd2⟩:=ao hT hr rfl
   cases d <;> simp [au] at hd2
   obtain ⟨hx1,hx2⟩:=hx.str_inv
   obtain ⟨b1,b2⟩:=fB hx2
   refine ⟨rfl,.int .i64 (s'.length:Int),?_,.int .i64 _ b1 b2⟩
   simp [execOp,hop,resolve,invoke,builtin,hx1,Builtin.len_,an hd1,goInt]
   rfl
  ·rename_i e sz by' z ty τ xs o' hr hopx
   rw [hopx] at hx
   simp only [Xs] at he
   subst he
   obtain ⟨d,hd1,hd2⟩:=ao hT hr rfl
   cases d <;> simp [au] at hd2
   rcases hx.lst_inv with ⟨h1,hv,_⟩ | ⟨h1,_,a0,hv⟩ | ⟨b,off,cap,vals,hv,h1,h2,h3,h4,h5⟩
   rotate_left
   ·subst h1
    obtain ⟨b1,b2⟩:=fB (n:=0) (by unfold aM;omega)
    refine ⟨rfl,.int .i64 0,?_,.int .i64 _ b1 b2⟩
    simp [execOp,hop,resolve,invoke,builtin,hv,Builtin.len_,an hd1,goInt]
   rotate_right
   ·subst h1
    obtain ⟨b1,b2⟩:=fB (n:=0) (by unfold aM;omega)
    refine ⟨rfl,.int .i64 0,?_,.int .i64 _ b1 b2⟩
    simp [execOp,hop,resolve,invoke,builtin,hv,Builtin.len_,an hd1,goInt]
   ·obtain ⟨b1,b2⟩:=fB (n:=xs.length) (by omega)
    refine ⟨rfl,.int .i64 (xs.length:Int),?_,.int .i64 _ b1 b2⟩
    simp [execOp,hop,resolve,invoke,builtin,hv,Builtin.len_,an hd1,goInt]
  ·rename_i e sz by' z ty hr hopx
   rw [hopx] at hx
   simp only [Xs] at he
   subst he
   obtain ⟨d,hd1,hd2⟩:=ao hT hr rfl
   cases d <;> simp [au] at hd2
   obtain ⟨b1,b2⟩:=fB (n:=0) (by unfold aM;omega)
   refine ⟨rfl,.int .i64 0,?_,.int .i64 _ b1 b2⟩
   simp [execOp,hop,resolve,invoke,builtin,hx.nils_inv,Builtin.len_,an hd1,goInt]
  ·rename_i e sz by' z ty id n w hr hopx
   rw [hopx] at hx
   simp only [Xs] at he
   subst he
   obtain ⟨d,hd1,hd2⟩:=ao hT hr rfl
   cases d <;> simp [au] at hd2
   generalize hxe:a.eval x=xv at hx
   cases hx with
   | arr _ _ _ b len cap a' he hl hc1 hc2 hc3=>
    obtain ⟨b1,b2⟩:=fB (n:=n) (by omega)
    refine ⟨rfl,.int .i64 n,?_,.int .i64 _ b1 b2⟩
    simp [execOp,hop,resolve,invoke,builtin,hxe,Builtin.len_,an hd1,goInt]
  ·rename_i e sz by' z ty s1 n k1 hr hopx
   rw [hopx] at hx
   simp only [Xs] at he
   subst he
   obtain ⟨d,hd1,hd2⟩:=ao hT hr rfl
   cases d <;> simp [au] at hd2
   generalize hxe:a.eval x=xv at hx
   cases hx with
   | glst _ _ _ cap a' hc1 hc2 hc3 hst=>
    obtain ⟨b1,b2⟩:=fB (n:=n) (by omega)
    refine ⟨rfl,.int .i64 n,?_,.int .i64 _ b1 b2⟩
    simp [execOp,hop,resolve,invoke,builtin,hxe,Builtin.len_,an hd1,goInt]
  ·rename_i e sz by' z ty id k' hr hopx
   rw [hopx] at hx
   split at he
   ·rename_i κ τ m hm
    simp only [Xs] at he
    subst he
    obtain ⟨d,hd1,hd2⟩:=ao hT hr rfl
    cases d <;> simp [au] at hd2
    generalize hxe:a.eval x=xv at hx
    cases hx with
    | map _ r he=>
     obtain ⟨r',e1,e2,es,clock,e3,e4⟩:=h.slots _ _ hm
     rw [he] at e1
     simp only [Xs,CObj.obj.injEq] at e1
     subst e1
     have hle:m.length<=aM:=ho
     obtain ⟨b1,b2⟩:=fB (n:=m.length) hle
     refine ⟨rfl,.int .i64 m.length,?_,.int .i64 _ b1 b2⟩
     simp [execOp,hop,resolve,invoke,builtin,hxe,Builtin.len_,an hd1,goInt,getObj,Sem.run,e3,e4.size]
   ·simp at he
  ·simp at he
 ·simp at he
end
end Go.AL
end
noncomputable section
namespace Go.AL
variable [Tabs]
section
variable {P:Program} {C:Cfg} {o:Oper}
theorem VL.take {Ω:Om} {cs:List AV} {vs:List Value} (h:VL Ω cs vs) (n:Nat):VL Ω (cs.take n) (vs.take n):=by
 refine ⟨by simp [h.1],fun j c v hc hv=>?_⟩
 rw [List.getElem?_take] at hc hv
 split at hc
 ·rename_i hj
  rw [if_pos hj] at hv
  exact h.2 j c v hc hv
 ·simp at hc
theorem VL.drop {Ω:Om} {cs:List AV} {vs:List Value} (h:VL Ω cs vs) (n:Nat):VL Ω (cs.drop n) (vs.drop n):=by
 refine ⟨by simp [h.1],fun j c v hc hv=>?_⟩
 rw [List.getElem?_drop] at hc hv
 exact h.2 _ c v hc hv
theorem mq:∀(cs vs ds:List AV),gM cs vs=some ds→vs.length<=cs.length/\ds=vs++cs.drop vs.length
 | cs,[],ds,h=>by
  cases cs <;> simp [gM] at h <;> simp [h]
 | [],_ ::_,ds,h=>by simp [gM] at h
 | c ::cs,v ::vs,ds,h=>by
  simp only [gM] at h
  split at h
  ·rename_i l hl
   obtain ⟨h1,h2⟩:=mq cs vs l hl
   simp at h
   exact ⟨by simp;omega,by simp [←h,h2]⟩
  ·simp at h
theorem cG:∀(cs:List AV) (off:Nat) (vs ds:List AV),splice cs off vs=some ds→
  off+vs.length<=cs.length/\ds=cs.take off++vs++cs.drop (off+vs.length)
 | cs,0,vs,ds,h=>by
  have h':gM cs vs=some ds:=by cases cs <;> simpa [splice] using h
  obtain ⟨h1,h2⟩:=mq _ _ _ h'
  exact ⟨by omega,by simp [h2]⟩
 | [],n+1,vs,ds,h=>by simp [splice] at h
 | c ::cs,n+1,vs,ds,h=>by
  simp only [splice] at h
  split at h
  ·rename_i l hl
   obtain ⟨h1,h2⟩:=cG cs n vs l hl
   simp at h
   refine ⟨by simp;omega,?_⟩
   rw [←h,h2,show n+1+vs.length=(n+vs.length)+1 from by omega]
   simp
  ·simp at h
theorem VL.splice {Ω:Om} {cs ds es:List AV} {us ws:List Value} {off:Nat} (h:VL Ω cs us) (k:VL Ω ds ws) (hs:splice cs off ds=some es) :
  VL Ω es (us.take off++ws++us.drop (off+ws.length)):=by
 obtain ⟨h1,h2⟩:=cG _ _ _ _ hs
 subst h2
 rw [←k.1]
 exact ((h.take off).append k).append (h.drop _)
theorem eC (B:Nat→Option SObj) (k:Nat) (x:SObj):aR B [(k,x)]=fun j=>if k=j then some x else B j:=rfl
theorem Holds.slot {F:Fr} {s:AS} {a:Act} {Ω:Om} {k:Nat} {c:CObj} {obj:SObj} {w':World} {pub':Nat→Nat→Prop} {dst:Option Nat} {val:AV} {v:Value}
  (h:Holds F s a Ω) (hx:Ext Ω ⟨fun i=>if k=i then some c else Ω.e i,w',pub'⟩)
  (hslot:aP ⟨fun i=>if k=i then some c else Ω.e i,w',pub'⟩ F.own k obj)
  (hold:∀i c',i≠k→Ω.e i=some c'→gJ Ω ⟨fun i=>if k=i then some c else Ω.e i,w',pub'⟩ c')
  (hnew:∀i c' b o,i≠k→Ω.e i=some c'→occ c' b o→occ c b o→False)
  (hp:∀b o,pub' b o→∃v,w'.cell? ⟨b,o,none⟩=some v)
  (hf:FrameOK F ⟨fun i=>if k=i then some c else Ω.e i,w',pub'⟩)
  (hv:V ⟨fun i=>if k=i then some c else Ω.e i,w',pub'⟩ val v) (hd:∀d,dst=some d→d < F.n) :
  Holds F ⟨aQ s.T dst val,aR s.B [(k,obj)]⟩ (a.put dst v) ⟨fun i=>if k=i then some c else Ω.e i,w',pub'⟩:=by
 refine h.step hx hv hd (fun id o ho=>?_) (fun id hid=>?_) (fun i j ci cj b o hi hj hbi hbj=>?_) hp hf
 ·simp only [eC] at ho
  by_cases hk:k=id
  ·subst hk
   simp at ho
   subst ho
   exact hslot
  ·rw [if_neg hk] at ho
   exact (h.slots id o ho).keep hx (by simp [hk]) (fun c' hc'=>hold id c' (fun e=>hk e.symm) hc')
 ·simp only [eC] at hid
  by_cases hk:k=id
  ·subst hk;simp at hid
  ·rw [if_neg hk] at hid
   simp only [if_neg hk]
   exact h.dom id hid
 ·by_cases hi':k=i <;> by_cases hj':k=j
  ·omega
  ·simp only [if_pos hi',if_neg hj',Xs] at hi hj
   subst hi
   exact (hnew j cj b o (fun e=>hj' e.symm) hj hbj hbi).elim
  ·simp only [if_neg hi',if_pos hj',Xs] at hi hj
   subst hj
   exact (hnew i ci b o (fun e=>hi' e.symm) hi hbi hbj).elim
  ·simp only [if_neg hi',if_neg hj'] at hi hj
   exact h.inj i j ci cj b o hi hj hbi hbj
theorem V.glst_inv {Ω:Om} {s n k:Nat} {v:Value} (h:V Ω (.glst s n k) v):∃cap a,v=.slice a n cap/\n<=cap/\cap<=aM/\((∃b,a=some ⟨b,0,none⟩)∨a=none/\n=0/\cap=0)/\iA Ω k s a cap:=by
 cases h with
 | glst _ _ _ cap a h1 h2 h3 h4=>exact ⟨cap,a,rfl,h1,h2,h3,h4⟩
theorem uB {τ:Ty} {xs:List (den τ)} {n j:Nat} {c:AV} (h:(flat τ (xs.take n))[j]?=some c):(flat τ xs)[j]?=some c:=by
 have e:flat τ xs=flat τ (xs.take n)++flat τ (xs.drop n):=by rw [←bB,List.take_append_drop]
 have hj:j < (flat τ (xs.take n)).length:=by
  rcases Nat.lt_or_ge j (flat τ (xs.take n)).length with q | q
  ·exact q
  ·rw [List.getElem?_eq_none q] at h;cases h
 rw [e,List.getElem?_append_left hj]
 exact h
theorem Holds.shrink {F:Fr} {s:AS} {a:Act} {Ω:Om} {k s' m cap:Nat} {τ:Ty} {xs:List (den τ)} {a0:Option Addr} {dst:Option Nat}
  (h:Holds F s a Ω) (hB:s.B k=some (.grow τ s' xs)) (hst:iA Ω k s' a0 cap) (hm:m<=xs.length) (ha:(∃b,a0=some ⟨b,0,none⟩)∨a0=none/\xs.length=0/\cap=0) (hd:∀d,dst=some d→d < F.n) :
  ∃Ω',Ω'.w=Ω.w/\Holds F ⟨aQ s.T dst (.glst (s'+1) (xs.take m).length k),aR s.B [(k,.grow τ (s'+1) (xs.take m))]⟩ (a.put dst (.slice a0 m cap)) Ω':=by
 obtain ⟨base,cap',e1,e2,e3,e4,e5⟩:=h.slots k _ hB
 obtain ⟨m',base',c',g1,g2,g3⟩:=hst
 rw [e1] at g1
 simp only [Xs,CObj.tail.injEq] at g1
 obtain ⟨rfl,rfl,rfl⟩:=g1
 obtain ⟨rfl,rfl⟩:=g3 rfl
 have hlen:(xs.take m).length=m:=by simp;omega
 have hx:Ext Ω ⟨fun i=>if k=i then some (.tail (s'+1) base cap) else Ω.e i,Ω.w,Ω.pub⟩:=by
  refine ⟨fun i c hc=>?_,fun _ _ p=>p,fun _ _ _=>rfl⟩
  by_cases hi:k=i
  ·subst hi
   rw [e1] at hc
   simp only [Xs] at hc
   subst hc
   exact ⟨_,by simp;rfl,by simp [CLe]⟩
  ·exact ⟨c,by simp [hi,hc],CLe.refl c⟩
 refine ⟨⟨fun i=>if k=i then some (.tail (s'+1) base cap) else Ω.e i,Ω.w,Ω.pub⟩,rfl,h.slot hx ?_ (fun i c' hi hc=>gJ.of_blocks fun b o hb=>⟨rfl,fun _ p=>p⟩) (fun i c' b o hi hc hb hb'=>?_) h.pubok ?_ ?_ hd⟩
 ·refine ⟨base,cap,by simp,by rw [hlen];omega,e3,e4,fun b hb=>?_⟩
  obtain ⟨q1,q2,q3,q4⟩:=e5 b hb
  refine ⟨q1,q2,q3,fun j c hc=>?_⟩
  obtain ⟨v,v1,v2⟩:=q4 j c (uB hc)
  exact ⟨v,v1,v2.ext hx⟩
 ·exact hi (h.inj i k _ _ b o hc e1 hb hb')
 ·exact ⟨h.frame.os,h.frame.tape,h.frame.output,h.frame.size,h.frame.block,h.frame.cell,h.frame.kind,h.frame.pub,h.frame.old,h.frame.pcell⟩
 ·have:=V.glst (Ω:=⟨fun i=>if k=i then some (.tail (s'+1) base cap) else Ω.e i,Ω.w,Ω.pub⟩) (s'+1) m k cap (bT base) (by omega) e3 (by
   rcases ha with ⟨b,hb⟩ | ⟨h1,h2,h3⟩
   ·exact .inl ⟨b,hb⟩
   ·exact .inr ⟨h1,by omega,h3⟩) ⟨_,base,cap,by simp,Nat.le_refl _,fun _=>⟨rfl,rfl⟩⟩
  rw [hlen]
  exact this
theorem w8 (hT:aE P C.tbl) {t:Nat} {x:Operand} {lo hi:Option Operand} (hop:o.op=.slice t x lo hi none):bg P C o:=by
 intro F s a Ω eff next Q h hd he ho hn
 simp only [aj,hop] at he
 split at he
 ·rename_i s1 n k hopx
  unfold rR at he
  split at he
  ·rename_i e sz by' z ty hh τ s' xs hr hlo hhi hB
   split at he
   ·rename_i re hre
    simp only [Xs] at he
    subst he
    obtain ⟨⟨rfl,rfl⟩,ho2,ho3⟩:=ho
    have hx:=aF h x
    rw [hopx] at hx
    obtain ⟨d,hd1,hd2⟩:=ao hT hr rfl
    cases d <;> simp [au] at hd2
    subst hd2
    obtain ⟨i,zz,i1,i2,i3,i4,i5⟩:=(hT _ _ hre).info
    obtain ⟨cap,a0,hv,hc1,hc2,hc3,hst⟩:=hx.glst_inv
    obtain ⟨kl,ekl⟩:=fM h hlo
    obtain ⟨kh,ekh⟩:=fM h hhi
    have hb:=fa (P:=P) (w:=Ω.w) (kl:=kl) (kh:=kh) (isSlice:=true) (len:=xs.length) (cap:=cap) (l:=none) (h:=some hh) (by simp) (by simpa using ho2) (by simpa using ho3) hc1
    rw [Option.map_none] at hb
    obtain ⟨Ω',w',hh'⟩:=h.shrink hB hst (m:=hh.toNat) (by omega) hc3 hd
    refine af (v:=.slice a0 hh.toNat cap) (w':=Ω.w) ?_ ?_
    ·simp only [execOp,hop,hv,Instr.sliceAt,Instr.slice,Sem.run_bind,an hd1,Result.andThen_ok,ekl,ekh,Option.map_none]
     rw [hb]
     rcases hc3 with ⟨b,rfl⟩ | ⟨rfl,q1,q2⟩
     ·simp [bF i1,Addr.add]
     ·have:hh.toNat=0:=by omega
      simp [bF i1,this,q2]
    ·rw [←w']
     exact hn _ _ hh'
   ·simp at he
  ·simp at he
 ·obtain ⟨h1,v,h2,h3⟩:=s4 hT hop h he ho
  refine af h2 (hn _ _ ?_)
  have:=h.pure h3 hd
  simpa [AS.put,h1,aR] using this
theorem eD (w:World) (x:Obj) (b:Nat) (hb:b < w.heap.size):(w.alloc x).heap[b]?=w.heap[b]?:=by
 show (w.heap.push x)[b]?=_
 rw [Array.getElem?_push,if_neg (by omega)]
theorem aT (w:World) (x:Obj):(w.alloc x).heap[w.heap.size]?=some x:=by
 show (w.heap.push x)[w.heap.size]?=_
 simp
theorem Holds.cell_lt {F:Fr} {s:AS} {a:Act} {Ω:Om} (h:Holds F s a Ω) {b o:Nat} (hp:Ω.pub b o):b < Ω.w.heap.size:=by
 obtain ⟨v,hv⟩:=h.pubok b o hp
 exact aC hv
theorem Holds.alloc {F:Fr} {s:AS} {a:Act} {Ω:Om} {d:Nat} {c:CObj} {obj:SObj} {x:Obj} {p:Nat→Prop} {dst:Option Nat} {val:AV} {v:Value}
  (h:Holds F s a Ω) (hn:Ω.e d=none∨∃c0,Ω.e d=some c0/\CLe c0 c) (hc:∀b o,occ c b o→b=Ω.w.heap.size)
  (hslot:Ext Ω ⟨fun i=>if d=i then some c else Ω.e i,Ω.w.alloc x,fun b o=>Ω.pub b o∨(b=Ω.w.heap.size/\p o)⟩→
   aP ⟨fun i=>if d=i then some c else Ω.e i,Ω.w.alloc x,fun b o=>Ω.pub b o∨(b=Ω.w.heap.size/\p o)⟩ F.own d obj)
  (hcell:∀o,p o→∃v,(Ω.w.alloc x).cell? ⟨Ω.w.heap.size,o,none⟩=some v)
  (hv:Ext Ω ⟨fun i=>if d=i then some c else Ω.e i,Ω.w.alloc x,fun b o=>Ω.pub b o∨(b=Ω.w.heap.size/\p o)⟩→
   V ⟨fun i=>if d=i then some c else Ω.e i,Ω.w.alloc x,fun b o=>Ω.pub b o∨(b=Ω.w.heap.size/\p o)⟩ val v) (hd:∀d,dst=some d→d < F.n) :
  Holds F ⟨aQ s.T dst val,aR s.B [(d,obj)]⟩ (a.put dst v)
   ⟨fun i=>if d=i then some c else Ω.e i,Ω.w.alloc x,fun b o=>Ω.pub b o∨(b=Ω.w.heap.size/\p o)⟩:=by
 have hx:Ext Ω ⟨fun i=>if d=i then some c else Ω.e i,Ω.w.alloc x,fun b o=>Ω.pub b o∨(b=Ω.w.heap.size/\p o)⟩:=by
  refine ⟨fun id c' hc'=>?_,fun b o hp=>Or.inl hp,fun b o hp=>ab (eD _ _ _ (h.cell_lt hp)) o⟩
  by_cases hid:d=id
  ·subst hid
   rcases hn with hn | ⟨c0,hn,hl⟩
   ·rw [hn] at hc';cases hc'
   ·rw [hn] at hc'
    simp at hc'
    subst hc'
    exact ⟨c,by simp,hl⟩
  ·exact ⟨c',by simp [hid,hc'],CLe.refl _⟩
 refine h.slot hx (hslot hx) (fun i c' hi he=>gJ.of_blocks fun b o hb=>?_) (fun i c' b o hi he hb hb'=>?_) (fun b o hp=>?_) ?_ (hv hx) hd
 ·have hlt:=h.blk he hb
  exact ⟨eD _ _ _ hlt,fun o ho=>ho.resolve_right (fun e=>by omega)⟩
 ·have hlt:=h.blk he hb
  have:=hc b o hb'
  omega
 ·rcases hp with hp | ⟨rfl,hp⟩
  ·obtain ⟨v,hv⟩:=h.pubok b o hp
   exact ⟨v,by rw [ab (eD _ _ _ (h.cell_lt hp)),hv]⟩
  ·exact hcell o hp
 ·have hsz:=h.frame.size
  refine ⟨h.frame.os,h.frame.tape,h.frame.output,by simp;omega,fun b hb hnb=>?_,fun b o hb hnb=>?_,fun b hb=>?_,fun b o hp=>?_,fun b o hp=>Or.inl (h.frame.old b o hp),fun b o hp=>(hx.cell b o (h.frame.old b o hp)).trans (h.frame.pcell b o hp)⟩
  ·show (Ω.w.alloc x).heap[b]?=_
   rw [eD _ _ _ (by omega)]
   exact h.frame.block b hb hnb
  ·exact (ab (eD Ω.w x b (by omega)) o).trans (h.frame.cell b o hb hnb)
  ·intro hnb
   obtain ⟨k1,k2⟩:=h.frame.kind b hb hnb
   exact ⟨(aH (eD Ω.w x b (by omega))).trans k1,fun o=>(ax (eD Ω.w x b (by omega)) o).trans (k2 o)⟩
  ·rcases hp with hp | ⟨rfl,hp⟩
   ·exact h.frame.pub b o hp
   ·exact Or.inr (Or.inl h.frame.size)
theorem Holds.newVar {F:Fr} {s:AS} {a:Act} {Ω:Om} {d:Nat} {c:AV} {vs:Array Value} {ty:Nat}
  (h:Holds F s a Ω) (hB:s.B d=none) (hv:VL Ω (a8 c) vs.toList) (hd:d < F.n) :
  ∃Ω',Ω'.w=Ω.w.alloc (.cells vs ty)/\
   Holds F ⟨aQ s.T (some d) (.ptr d 0),aR s.B [(d,.box c)]⟩ (a.put (some d) (.pointer (some ⟨Ω.w.heap.size,0,none⟩))) Ω':=by
 refine ⟨_,rfl,h.alloc (c:=.box Ω.w.heap.size 0 (a8 c).length) (p:=fun _=>False) (Or.inl (h.dom d hB)) (fun b o hb=>hb.1) (fun hx=>?_) (fun _ hf=>hf.elim) (fun hx=>?_) (fun d' hd'=>by simp at hd';subst hd';exact hd)⟩
 ·refine ⟨Ω.w.heap.size,0,by simp,fun j c' hc=>?_⟩
  have hj:j < vs.size:=by
   have h1:(a8 c).length=vs.toList.length:=hv.1
   have h2:vs.toList.length=vs.size:=Array.length_toList
   rcases Nat.lt_or_ge j (a8 c).length with k | k
   ·rw [←h2,←h1];exact k
   ·rw [List.getElem?_eq_none k] at hc;cases hc
  have hcells:(Ω.w.alloc (.cells vs ty)).heap[Ω.w.heap.size]?=some (.cells vs ty (0,0)):=aT _ _
  refine ⟨Or.inl h.frame.size,fun hp=>?_,cU hcells _,vs[j],?_,(hv.2 j c' _ hc (by simp [hj])).ext hx⟩
  ·rcases hp with hp | ⟨_,hp⟩
   ·have:=h.cell_lt hp;omega
   ·exact hp
  ·simp only [Nat.zero_add]
   rw [ae hcells]
   simp [hj]
 ·have:=V.ptr (Ω:=⟨fun i=>if d=i then some (.box Ω.w.heap.size 0 (a8 c).length) else Ω.e i,Ω.w.alloc (.cells vs ty),fun b o=>Ω.pub b o∨(b=Ω.w.heap.size/\False)⟩) d 0 Ω.w.heap.size 0 (a8 c).length (by simp)
  simpa using this
theorem gm {w:World} {t:Nat} {v:Value}:(newVar t v).run P w=.ok ⟨w.heap.size,0,none⟩ (w.alloc (.cells v.cells t)):=by
 simp [newVar,newRow]
theorem qn (v:Value):a8 (bc v)=[bc v]:=by
 unfold bc
 split <;> (try split) <;> rfl
theorem pn {v:Value} (h:bc v=.nilp):v=.pointer none:=by
 unfold bc at h
 split at h <;> (try split at h) <;> first | rfl | cases h
theorem po {v:Value} (h:bc v=.nils):v=.slice none 0 0:=by
 unfold bc at h
 split at h <;> (try split at h) <;> first | rfl | cases h
theorem mr:∀{l:List AV},xA l=true→flat (.int .i64) (List.replicate l.length (0:Int))=l
 | [],_=>rfl
 | c ::r,h=>by
  unfold xA at h
  split at h
  ·rename_i h1;cases h1
  ·rename_i r' h1
   simp only [List.cons.injEq] at h1
   obtain ⟨rfl,rfl⟩:=h1
   have ih:=mr h
   simp only [List.length_cons,List.replicate_succ,flat,List.flatMap_cons] at ih ⊢
   rw [ih]
   rfl
  ·cases h
theorem w9 (hT:aE P C.tbl) {e:Nat} (hop:o.op=.alloc e):bg P C o:=by
 intro F s a Ω eff next Q h hd he ho hn
 simp only [aj,hop] at he
 split at he
 ·rename_i d r hdst hr
  split at he
  ·rename_i u hu
   split at he
   ·rename_i hB
    simp only [Xs] at he
    subst he
    obtain ⟨i,z,i1,i2,i3,i4,i5⟩:=(hT _ _ hr).info
    have hz0:r.zero=[.nilp,.nils]:=by
     unfold yp at hu
     split at hu
     ·assumption
     ·cases hu
    rw [hz0] at i5
    have hz:z.cells=#[.pointer none,.slice none 0 0]:=by
     match hl:z.cells.toList,i5 with
     | [],i5=>cases i5
     | [_],i5=>simp at i5
     | _ ::_ ::_ ::_,i5=>simp at i5
     | [x,y],i5=>
      simp only [List.map_cons,List.map_nil,List.cons.injEq,and_true] at i5
      have hx:x=.pointer none:=pn i5.1
      have hy:y=.slice none 0 0:=po i5.2
      subst hx hy
      exact Array.toList_inj.1 hl
    have hnew:(Ω.w.alloc (.cells #[.pointer none,.slice none 0 0] e)).heap[Ω.w.heap.size]?=some (.cells #[.pointer none,.slice none 0 0] e (0,0)):=aT _ _
    have hh:=h.alloc (d:=d) (c:=.bld Ω.w.heap.size none) (obj:=.bld e u []) (x:=.cells #[.pointer none,.slice none 0 0] e) (p:=fun _=>False) (dst:=some d) (val:=.bptr d) (v:=.pointer (some ⟨Ω.w.heap.size,0,none⟩))
     (Or.inl (h.dom d hB)) (fun b o hb=>by rcases hb with hb | hb;exact hb;cases hb)
     (fun hx=>by
      refine ⟨Ω.w.heap.size,none,by simp,fun b' hb o=>?_,.pointer none,.slice none 0 0,hnew,.inl rfl,rfl,by simp,World.ownsRowF_nil _ _ _ _,fun _=>rfl⟩
      rcases hb with rfl | hb
      ·refine ⟨Or.inl h.frame.size,fun hp=>?_⟩
       rcases hp with hp | ⟨_,hp⟩
       ·have:=h.cell_lt hp;omega
       ·exact hp
      ·cases hb)
     (fun _ hf=>hf.elim) (fun hx=>.bptr d Ω.w.heap.size none (by simp)) (fun d' hd'=>by simp at hd';subst hd';exact hd d hdst)
    refine af (v:=.pointer (some ⟨Ω.w.heap.size,0,none⟩)) (w':=Ω.w.alloc (.cells z.cells e)) ?_ ?_
    ·simp [execOp,hop,Instr.alloc,cO i1 i4,gm]
    ·rw [hz]
     rw [hdst] at hn ⊢
     exact hn _ _ hh
   ·simp at he
  split at he
  ·rename_i c hB hz
   simp only [Xs] at he
   subst he
   obtain ⟨i,z,i1,i2,i3,i4,i5⟩:=(hT _ _ hr).info
   have hc:a8 c=r.zero:=by
    unfold tD at hz
    split at hz
    ·split at hz
     ·rename_i hzz
      simp only [Bool.and_eq_true] at hzz
      simp only [Xs] at hz
      subst hz
      rw [←bf _ _ hzz.2]
      exact mr hzz.1
     ·cases hz
    split at hz
    ·simp only [Xs] at hz
     subst hz
     rfl
    ·split at hz
     ·rename_i c1 hzz
      simp only [Xs] at hz
      subst hz
      rw [hzz] at i5
      match hl:z.cells.toList,i5 with
      | [u],i5=>
       simp only [List.map_cons,List.map_nil,List.cons.injEq,and_true] at i5
       rw [←i5,qn,i5,hzz]
     ·cases hz
   have hvl:VL Ω (a8 c) z.cells.toList:=by rw [hc,←i5];exact mn Ω _
   obtain ⟨Ω',hw,hh⟩:=h.newVar (ty:=e) hB hvl (hd d hdst)
   refine af (v:=.pointer (some ⟨Ω.w.heap.size,0,none⟩)) (w':=Ω.w.alloc (.cells z.cells e)) ?_ ?_
   ·simp [execOp,hop,Instr.alloc,cO i1 i4,gm]
   ·rw [←hw]
    rw [hdst] at hn ⊢
    exact hn _ _ hh
  ·simp at he
 ·simp at he
theorem oh (off:Nat):∀(vs:List Value) (i:Nat) (cs:Array Value),off+i+vs.length<=cs.size→
  (vs.zipIdx i).foldl (fun (cs:Array Value) (x:Value × Nat)=>cs.setIfInBounds (off+x.2) x.1) cs=
   (cs.toList.take (off+i)++vs++cs.toList.drop (off+i+vs.length)).toArray
 | [],i,cs,_=>by simp
 | v ::vs,i,cs,h=>by
  simp at h
  simp only [List.zipIdx_cons,List.foldl_cons]
  rw [oh off vs (i+1) _ (by simp;omega)]
  apply Array.ext'
  have hi:off+i < cs.toList.length:=by simp;omega
  simp only [Array.toList_setIfInBounds,List.length_cons]
  rw [List.set_eq_take_append_cons_drop,if_pos hi]
  have e1:(List.take (off+i) cs.toList++v ::List.drop (off+i+1) cs.toList).take (off+(i+1))=List.take (off+i) cs.toList++[v]:=by
   rw [List.take_append,List.take_of_length_le (by simp;omega)]
   congr 1
   have:off+(i+1) - (List.take (off+i) cs.toList).length=1:=by simp;omega
   rw [this]
   rfl
  have e2:(List.take (off+i) cs.toList++v ::List.drop (off+i+1) cs.toList).drop (off+(i+1)+vs.length)=List.drop (off+i+(vs.length+1)) cs.toList:=by
   rw [List.drop_append,List.drop_of_length_le (by simp;omega),List.nil_append]
   have:off+(i+1)+vs.length - (List.take (off+i) cs.toList).length=vs.length+1:=by simp;omega
   rw [this,List.drop_succ_cons,List.drop_drop]
   congr 1
   omega
  rw [e1,e2]
  simp
theorem oi {place:Nat→Option (Nat × Nat)} {cells:Array Value} {i:Nat} {v:Value} {rest:List (Nat × Value)} {off size:Nat}
  (hp:place i=some (off,size)) (hs:v.cells.size=size) (hl:off+v.cells.size<=cells.size) :
  Instr.fill place cells ((i,v) ::rest)=
   Instr.fill place (cells.toList.take off++v.cells.toList++cells.toList.drop (off+v.cells.size)).toArray rest:=by
 simp only [Instr.fill,hp]
 rw [if_neg (by simp;omega)]
 congr 1
 rw [←Array.foldl_toList]
 have:=oh off v.cells.toList 0 cells (by simpa using hl)
 simp only [Nat.add_zero,Array.length_toList] at this
 rw [←this]
 simp [Array.toList_zipIdx]
theorem qo {Ω:Om} {x:AV} {v:Value} (h:V Ω x v) {n:Nat} (hl:du (a8 x) n=true) (hn:(a8 x).all fP=true):v.cells.size=n:=by
 have:=(h.parts hn).1
 rw [bf _ _ hl] at this
 simpa using this.symm
theorem kK {Ω:Om} (fs:List (Nat × Nat)) (sz:Nat→Option Nat):∀(ps:List (Nat × AV)) (qs:List (Nat × Value)) (cs ds:List AV) (vs:List Value) (place:Nat→Option (Nat × Nat)),
  (∀i off t n,nth fs i=some (off,t)→sz t=some n→place i=some (off,n))→
  ps.map (·.1)=qs.map (·.1)→VL Ω (ps.map (·.2)) (qs.map (·.2))→VL Ω cs vs→qf fs sz cs ps=some ds→
  ∃ws,Instr.fill place vs.toArray qs=some ws/\VL Ω ds ws.toList
 | [],qs,cs,ds,vs,place,_,hq,_,hc,hf=>by
  cases qs with
  | cons _ _=>simp at hq
  | nil=>
   simp [qf] at hf
   subst hf
   exact ⟨vs.toArray,rfl,by simpa using hc⟩
 | (i,x) ::ps,[],cs,ds,vs,place,_,hq,_,_,_=>by simp at hq
 | (i,x) ::ps,(i',v) ::qs,cs,ds,vs,place,hp,hq,hv,hc,hf=>by
  simp only [List.map_cons,List.cons.injEq] at hq
  obtain ⟨rfl,hq⟩:=hq
  simp only [List.map_cons] at hv
  simp only [qf] at hf
  split at hf
  ·rename_i off t hft
   split at hf
   ·rename_i n hn
    split at hf
    ·rename_i hl
     simp only [Bool.and_eq_true] at hl
     split at hf
     ·rename_i es hes
      have hxv:=hv.head
      have hpl:=hp _ _ _ _ hft hn
      have hsz:=qo hxv hl.2 hl.1
      have hsp:=hc.splice (hxv.parts hl.1) hes
      obtain ⟨s1,s2⟩:=cG _ _ _ _ hes
      obtain ⟨ws,h1,h2⟩:=kK fs sz ps qs es ds _ place hp hq hv.tail hsp hf
      refine ⟨ws,?_,h2⟩
      rw [oi hpl hsz (by
       have e1:=bf _ _ hl.2
       simp only [List.size_toArray,←hc.1]
       omega)]
      simpa using h1
     ·simp at hf
    ·simp at hf
   ·simp at hf
  ·simp at hf
theorem mu {w:World} (hT:aE P C.tbl):∀(fields:List Field),(∀f∈fields,∃i,P.info? f.type=some i/\i.size≠0)→
  (fields.mapM fun f=>(do pure (f.offset,←sizeOf f.type):Sem (Nat × Nat))).run P w=.ok (fields.map fun f=>(f.offset,P.cellsOf f.type)) w
 | [],_=>rfl
 | f ::fs,h=>by
  obtain ⟨i,hi,_⟩:=h f (by simp)
  rw [List.mapM_cons]
  simp only [Sem.run_bind,bF hi,Result.andThen_ok,Sem.run_pure,mu hT fs (fun f hf=>h f (by simp [hf])),List.map_cons,Program.cellsOf,hi,Option.map_some,Option.getD_some]
theorem wa (hT:aE P C.tbl) {t:Nat} {ps:Array (Nat × Operand)} (hop:o.op=.build t ps):bg P C o:=by
 refine bg.pure fun F s a Ω eff h he ho=>?_
 simp only [aj,hop] at he
 split at he
 ·rename_i fs sz by' z ty hr
  split at he
  ·rename_i cs hcs
   simp only [Xs] at he
   subst he
   obtain ⟨d,hd1,hd2⟩:=ao hT hr rfl
   cases d <;> simp [au] at hd2
   rename_i fields
   obtain ⟨hf1,hf2⟩:=hd2
   obtain ⟨i,zv,i1,i2,i3,i4,i5⟩:=(hT _ _ hr).info
   have i5':List.map bc zv.cells.toList=z:=i5
   have hz:VL Ω z zv.cells.toList:=by rw [←i5'];exact mn Ω _
   have hfi:∀f∈fields.toList,∃i,P.info? f.type=some i/\i.size≠0:=by
    intro f hf
    obtain ⟨j,hj,hje⟩:=Array.mem_iff_getElem.1 (Array.mem_toList_iff.1 hf)
    have:=hf2 j hj
    rw [hje] at this
    split at this
    ·rename_i i' hi'
     exact ⟨i',hi',fun h0=>by simp [h0] at this⟩
    ·simp at this
   have hpl:∀w,(fields.mapM fun f=>(do pure (f.offset,←sizeOf f.type):Sem (Nat × Nat))).run P w=.ok (fields.toList.map fun f=>(f.offset,P.cellsOf f.type)).toArray w:=by
    intro w
    rw [←Array.toArray_toList (xs:=fields),List.mapM_toArray]
    simp only [Sem.run_map,mu hT fields.toList hfi,Result.andThen_ok]
   obtain ⟨ws,h1,h2⟩:=kK (Ω:=Ω) fs (fun t=>(aq C.tbl t).map (·.size)) (ps.toList.map fun (i,x)=>(i,opd s.T x)) (ps.toList.map fun (i,x)=>(i,a.eval x)) z cs zv.cells.toList
    (fun i=>((fields.toList.map fun f=>(f.offset,P.cellsOf f.type)).toArray)[i]?)
    (by
     intro j off t' n hn1 hn2
     rw [fL,←hf1] at hn1
     simp only [List.getElem?_map,Option.map_eq_some_iff] at hn1 hn2
     obtain ⟨f,hf,e⟩:=hn1
     obtain ⟨r',hr',e'⟩:=hn2
     simp at e
     obtain ⟨i',z',j1,j2,j3,j4,j5⟩:=(hT _ _ hr').info
     simp only [List.getElem?_toArray,List.getElem?_map,hf,Option.map_some,Program.cellsOf,e.1,e.2,j1,Option.getD_some,j2,e'])
    (by simp [Function.comp_def])
    (by
     refine ⟨by simp,fun j c v hc hv=>?_⟩
     simp only [List.map_map,List.getElem?_map,Option.map_eq_some_iff] at hc hv
     obtain ⟨x,hx,e⟩:=hc
     obtain ⟨x',hx',e'⟩:=hv
     rw [hx] at hx'
     simp at hx'
     subst hx'
     simp at e e'
     rw [←e,←e']
     exact aF h x.2)
    hz hcs
   refine ⟨rfl,.agg ws,?_,?_⟩
   ·simp only [execOp,hop,Instr.build,Sem.run_bind,cO i1 i4,Result.andThen_ok,an hd1,hpl,Sem.run_pure]
    have e:ps.map (fun x=>(x.1,a.eval x.2))=(ps.toList.map fun (i,x)=>(i,a.eval x)).toArray:=by apply Array.ext';simp
    have e2:(ps.map fun x=>match x with | (i,x)=>(i,a.eval x)).toList=ps.toList.map fun (i,x)=>(i,a.eval x):=by simp
    simp only [Array.toArray_toList] at h1
    rw [e2,h1]
    simp
   ·have:=V.of_agg h2
    show V Ω (.agg cs) _
    simpa using this
  ·simp at he
 ·simp at he
end
end Go.AL
end
