/- The layer: Go code as conditions, and that they are sound. No condition. -/
import Derived.KernelRfl
import Derived.Orders
set_option linter.unusedVariables false
set_option linter.unusedSimpArgs false
set_option linter.unnecessarySimpa false
set_option linter.deprecated false
set_option linter.unusedSectionVars false
set_option maxRecDepth 100000
namespace Go.AL
theorem Xr {p:Prop} (h:p:=by repeat (first | exact trivial | refine ⟨by first | rfl | trivial,?_⟩)):p:=h
theorem Xo {p:Prop} [Decidable p] (h:decide p=true):p:=of_decide_eq_true h
theorem Xd {p:Prop} [Decidable p] (h:p):decide p=true:=decide_eq_true h
theorem Xt {P:Program} {k:Nat} {f g:Func} (h:P.funcs[k]?=some f) (e:f=g:=by kernel_rfl):P.funcs[k]?=some g:=h.trans (congrArg some e)
theorem Xs {α:Type _} (a b:α):(some a=some b)=(a=b):=Option.some.injEq a b
theorem Xf {p:Prop} [Decidable p] (h:¬p):decide p=false:=decide_eq_false h
end Go.AL
section
namespace Go.AL
abbrev Str:=List UInt8
structure Shape where
 kind:Int
 pkg:Str
 name:Str
 names:List Str
 parts:List Shape
instance:Inhabited Shape:=⟨⟨0,[],[],[],[]⟩⟩
structure Item where
 kind:Int
 name:Str
 shape:Shape
instance:Inhabited Item:=⟨⟨0,[],default⟩⟩
structure Change where
 kind:Int
 name:Str
instance:Inhabited Change:=⟨⟨0,[]⟩⟩
structure Tokn where
 kind:Int
 text:Str
 pos:Int
instance:Inhabited Tokn:=⟨⟨0,[],0⟩⟩
structure Flt where
 err:Int
 pos:Int
instance:Inhabited Flt:=⟨⟨0,0⟩⟩
structure Trm where
 kind:Int
 pkg:Str
 name:Str
 n:Int
 names:List Str
 vars:List Str
 shapes:List Shape
 parts:List Trm
 pos:Int
instance:Inhabited Trm:=⟨⟨0,[],[],0,[],[],[],[],0⟩⟩
structure Vers where
 major:Int
 minor:Int
 patch:Int
 pre:Str
instance:Inhabited Vers:=⟨⟨0,0,0,[]⟩⟩
structure Bnd where
 op:Int
 v:Vers
instance:Inhabited Bnd:=⟨⟨0,default⟩⟩
structure Impt where
 name:Str
 pin:Vers
 range:List Bnd
 pos:Int
instance:Inhabited Impt:=⟨⟨[],default,[],0⟩⟩
structure Dcl where
 kind:Int
 name:Str
 shape:Shape
 term:Trm
 pos:Int
instance:Inhabited Dcl:=⟨⟨0,[],default,default,0⟩⟩
structure Modu where
 name:Str
 imports:List Impt
 decls:List Dcl
 exports:List Str
 pos:Int
instance:Inhabited Modu:=⟨⟨[],[],[],[],0⟩⟩
structure Bndg where
 pkg:Str
 name:Str
 shape:Shape
instance:Inhabited Bndg:=⟨⟨[],[],default⟩⟩
structure Envt where
 self:Str
 types:List Bndg
 values:List Bndg
 own:List Bndg
instance:Inhabited Envt:=⟨⟨[],[],[],[]⟩⟩
structure Depd where
 name:Str
 items:List Item
instance:Inhabited Depd:=⟨⟨[],[]⟩⟩
structure Vlu where
 kind:Int
 n:Int
 pkg:Str
 text:Str
 names:List Str
 parts:List Vlu
instance:Inhabited Vlu:=⟨⟨0,0,[],[],[],[]⟩⟩
structure Cel where
 name:Str
 value:Vlu
instance:Inhabited Cel:=⟨⟨[],default⟩⟩
structure Opn where
 kind:Int
 n:Int
 name:Str
 names:List Str
 tos:List Int
 pos:Int
instance:Inhabited Opn:=⟨⟨0,0,[],[],[],0⟩⟩
structure Chnk where
 args:Int
 ops:List Opn
instance:Inhabited Chnk:=⟨⟨0,[]⟩⟩
structure Usg where
 pkg:Str
 name:Str
instance:Inhabited Usg:=⟨⟨[],[]⟩⟩
structure Nam where
 pkg:Str
 name:Str
instance:Inhabited Nam:=⟨⟨[],[]⟩⟩
structure Stt where
 things:Int
 names:Int
instance:Inhabited Stt:=⟨⟨0,0⟩⟩
structure Par where
 toks:List Tokn
 pos:Int
 err:Int
 fat:Int
instance:Inhabited Par:=⟨⟨[],0,0,0⟩⟩
structure Rstt where
 known:Bool
 things:Int
 names:Int
instance:Inhabited Rstt:=⟨⟨false,0,0⟩⟩
inductive SN where
 | shape | item | change | token | fault | term | version | bound | imp | decl | modu | bind | env | dep | val | cell | op | chunk | usg | nm | stt | par | rstt
 deriving DecidableEq
inductive Ty where
 | int (k:IntKind) | bool | str | lst (t:Ty) | st (n:SN) | pt (n:SN)
 deriving DecidableEq
@[reducible] def SD:SN→Type
 | .shape=>Shape
 | .item=>Item
 | .change=>Change
 | .token=>Tokn
 | .fault=>Flt
 | .term=>Trm
 | .version=>Vers
 | .bound=>Bnd
 | .imp=>Impt
 | .decl=>Dcl
 | .modu=>Modu
 | .bind=>Bndg
 | .env=>Envt
 | .dep=>Depd
 | .val=>Vlu
 | .cell=>Cel
 | .op=>Opn
 | .chunk=>Chnk
 | .usg=>Usg
 | .nm=>Nam
 | .stt=>Stt
 | .par=>Par
 | .rstt=>Rstt
@[reducible] def den:Ty→Type
 | .int _=>Int
 | .bool=>Bool
 | .str=>Str
 | .lst t=>List (den t)
 | .st n=>SD n
 | .pt n=>Option (SD n)
def dfl:(τ:Ty)→den τ
 | .int _=>(0:Int)
 | .bool=>false
 | .str=>([]:Str)
 | .lst _=>[]
 | .pt _=>none
 | .st .shape=>(default:Shape)
 | .st .item=>(default:Item)
 | .st .change=>(default:Change)
 | .st .token=>(default:Tokn)
 | .st .fault=>(default:Flt)
 | .st .term=>(default:Trm)
 | .st .version=>(default:Vers)
 | .st .bound=>(default:Bnd)
 | .st .imp=>(default:Impt)
 | .st .decl=>(default:Dcl)
 | .st .modu=>(default:Modu)
 | .st .bind=>(default:Bndg)
 | .st .env=>(default:Envt)
 | .st .dep=>(default:Depd)
 | .st .val=>(default:Vlu)
 | .st .cell=>(default:Cel)
 | .st .op=>(default:Opn)
 | .st .chunk=>(default:Chnk)
 | .st .usg=>(default:Usg)
 | .st .nm=>(default:Nam)
 | .st .stt=>(default:Stt)
 | .st .par=>(default:Par)
 | .st .rstt=>(default:Rstt)
inductive AV where
 | undef
 | int (k:IntKind) (n:Int)
 | bool (b:Bool)
 | str (s:Str)
 | lst (τ:Ty) (xs:List (den τ)) (o:Option Nat)
 | nils
 | ptr (id off:Nat)
 | cptr (c:AV)
 | nilp
 | pt (n:SN) (x:Option (SD n))
 | st (n:SN) (x:SD n)
 | agg (cs:List AV)
 | tup (vs:List AV)
 | fn (f:Nat) (cs:List AV)
 | row (τ:Ty) (xs:List (den τ))
 | arr (id n w:Nat)
 | aptr (id i w off:Nat)
 | map (id:Nat)
 | bptr (id:Nat)
 | iface (t:Nat) (a:AV)
 | nilif
 | lstp (τ:Ty) (xs:List (den τ)) (k:Nat)
 | tptr (τ:Ty) (n k:Nat)
instance:Inhabited AV:=⟨.undef⟩
def er (x:Shape):List AV:=.int .i64 x.kind ::(.str x.pkg ::(.str x.name ::(.lst .str x.names none ::(.lst (.st .shape) x.parts none ::[]))))
def iu (x:Item):List AV:=.int .i64 x.kind ::(.str x.name ::(er x.shape++[]))
def fB (x:Change):List AV:=.int .i64 x.kind ::(.str x.name ::[])
def gj (x:Tokn):List AV:=.int .i64 x.kind ::(.str x.text ::(.int .i64 x.pos ::[]))
def gn (x:Flt):List AV:=.int .i64 x.err ::(.int .i64 x.pos ::[])
def gp (x:Trm):List AV:=.int .i64 x.kind ::(.str x.pkg ::(.str x.name ::(.int .i64 x.n ::(.lst .str x.names none ::(.lst .str x.vars none ::(.lst (.st .shape) x.shapes none ::(.lst (.st .term) x.parts none ::(.int .i64 x.pos ::[]))))))))
def dI (x:Vers):List AV:=.int .i64 x.major ::(.int .i64 x.minor ::(.int .i64 x.patch ::(.str x.pre ::[])))
def gq (x:Bnd):List AV:=.int .i64 x.op ::(dI x.v++[])
def jn (x:Impt):List AV:=.str x.name ::(dI x.pin++(.lst (.st .bound) x.range none ::(.int .i64 x.pos ::[])))
def iv (x:Dcl):List AV:=.int .i64 x.kind ::(.str x.name ::(er x.shape++(gp x.term++(.int .i64 x.pos ::[]))))
def iw (x:Modu):List AV:=.str x.name ::(.lst (.st .imp) x.imports none ::(.lst (.st .decl) x.decls none ::(.lst .str x.exports none ::(.int .i64 x.pos ::[]))))
def ix (x:Bndg):List AV:=.str x.pkg ::(.str x.name ::(er x.shape++[]))
def jo (x:Envt):List AV:=.str x.self ::(.lst (.st .bind) x.types none ::(.lst (.st .bind) x.values none ::(.lst (.st .bind) x.own none ::[])))
def jp (x:Depd):List AV:=.str x.name ::(.lst (.st .item) x.items none ::[])
def iJ (x:Vlu):List AV:=.int .i64 x.kind ::(.int .i64 x.n ::(.str x.pkg ::(.str x.text ::(.lst .str x.names none ::(.lst (.st .val) x.parts none ::[])))))
def iy (x:Cel):List AV:=.str x.name ::(iJ x.value++[])
def lF (x:Opn):List AV:=.int .i64 x.kind ::(.int .i64 x.n ::(.str x.name ::(.lst .str x.names none ::(.lst (.int .i64) x.tos none ::(.int .i64 x.pos ::[])))))
def gr (x:Chnk):List AV:=.int .i64 x.args ::(.lst (.st .op) x.ops none ::[])
def jq (x:Usg):List AV:=.str x.pkg ::(.str x.name ::[])
def lG (x:Nam):List AV:=.str x.pkg ::(.str x.name ::[])
def jr (x:Stt):List AV:=.int .i64 x.things ::(.int .i64 x.names ::[])
def js (x:Par):List AV:=.lst (.st .token) x.toks none ::(.int .i64 x.pos ::(.int .i64 x.err ::(.int .i64 x.fat ::[])))
def iz (x:Rstt):List AV:=.bool x.known ::(.int .i64 x.things ::(.int .i64 x.names ::[]))
def cells:(τ:Ty)→den τ→List AV
 | .int k,n=>[.int k n]
 | .bool,b=>[.bool b]
 | .str,s=>[.str s]
 | .lst t,l=>[.lst t l none]
 | .pt n,x=>[.pt n x]
 | .st .shape,x=>er x
 | .st .item,x=>iu x
 | .st .change,x=>fB x
 | .st .token,x=>gj x
 | .st .fault,x=>gn x
 | .st .term,x=>gp x
 | .st .version,x=>dI x
 | .st .bound,x=>gq x
 | .st .imp,x=>jn x
 | .st .decl,x=>iv x
 | .st .modu,x=>iw x
 | .st .bind,x=>ix x
 | .st .env,x=>jo x
 | .st .dep,x=>jp x
 | .st .val,x=>iJ x
 | .st .cell,x=>iy x
 | .st .op,x=>lF x
 | .st .chunk,x=>gr x
 | .st .usg,x=>jq x
 | .st .nm,x=>lG x
 | .st .stt,x=>jr x
 | .st .par,x=>js x
 | .st .rstt,x=>iz x
def ab:Ty→Nat
 | .st .shape=>5
 | .st .item=>7
 | .st .change=>2
 | .st .token=>3
 | .st .fault=>2
 | .st .term=>9
 | .st .version=>4
 | .st .bound=>5
 | .st .imp=>7
 | .st .decl=>17
 | .st .modu=>5
 | .st .bind=>7
 | .st .env=>4
 | .st .dep=>2
 | .st .val=>6
 | .st .cell=>7
 | .st .op=>6
 | .st .chunk=>2
 | .st .usg=>2
 | .st .nm=>2
 | .st .stt=>2
 | .st .par=>4
 | .st .rstt=>3
 | _=>1
def mT (n m:SN) (x:SD n):Option (SD m):=if h:n=m then some (h ▸ x) else none
def kF (τ σ:Ty) (xs:List (den τ)):Option (List (den σ)):=if h:τ=σ then some (h ▸ xs) else none
def asInt (k:IntKind):AV→Option Int
 | .int k' n=>if k'=k then some n else none
 | _=>none
def pA:AV→Option Bool
 | .bool b=>some b
 | _=>none
def dZ:AV→Option Str
 | .str s=>some s
 | _=>none
def eI (σ:Ty):AV→Option (List (den σ))
 | .lst τ xs _=>kF τ σ xs
 | .nils=>some []
 | _=>none
def sJ (n m:SN) (x:Option (SD n)):Option (Option (SD m)):=if h:n=m then some (h ▸ x) else none
def Iw (n:SN):AV→Option (Option (SD n))
 | .pt m x=>sJ m n x
 | .nilp=>some none
 | .cptr (.st m x)=>sJ m n (some x)
 | _=>none
def iA:List AV→Option Shape
 | [c0,c1,c2,c3,c4]=>
  match asInt .i64 c0,dZ c1,dZ c2,eI .str c3,eI (.st .shape) c4 with
  | some x0,some x1,some x2,some x3,some x4=>some ⟨x0,x1,x2,x3,x4⟩
  | _,_,_,_,_=>none
 | _=>none
def pR:List AV→Option Item
 | [c0,c1,c2,c3,c4,c5,c6]=>
  match asInt .i64 c0,dZ c1,iA [c2,c3,c4,c5,c6] with
  | some x0,some x1,some x2=>some ⟨x0,x1,x2⟩
  | _,_,_=>none
 | _=>none
def mz:List AV→Option Change
 | [c0,c1]=>
  match asInt .i64 c0,dZ c1 with
  | some x0,some x1=>some ⟨x0,x1⟩
  | _,_=>none
 | _=>none
def nP:List AV→Option Tokn
 | [c0,c1,c2]=>
  match asInt .i64 c0,dZ c1,asInt .i64 c2 with
  | some x0,some x1,some x2=>some ⟨x0,x1,x2⟩
  | _,_,_=>none
 | _=>none
def nQ:List AV→Option Flt
 | [c0,c1]=>
  match asInt .i64 c0,asInt .i64 c1 with
  | some x0,some x1=>some ⟨x0,x1⟩
  | _,_=>none
 | _=>none
def mU:List AV→Option Trm
 | [c0,c1,c2,c3,c4,c5,c6,c7,c8]=>
  match asInt .i64 c0,dZ c1,dZ c2,asInt .i64 c3,eI .str c4,eI .str c5,eI (.st .shape) c6,eI (.st .term) c7,asInt .i64 c8 with
  | some x0,some x1,some x2,some x3,some x4,some x5,some x6,some x7,some x8=>some ⟨x0,x1,x2,x3,x4,x5,x6,x7,x8⟩
  | _,_,_,_,_,_,_,_,_=>none
 | _=>none
def gM:List AV→Option Vers
 | [c0,c1,c2,c3]=>
  match asInt .i64 c0,asInt .i64 c1,asInt .i64 c2,dZ c3 with
  | some x0,some x1,some x2,some x3=>some ⟨x0,x1,x2,x3⟩
  | _,_,_,_=>none
 | _=>none
def nR:List AV→Option Bnd
 | [c0,c1,c2,c3,c4]=>
  match asInt .i64 c0,gM [c1,c2,c3,c4] with
  | some x0,some x1=>some ⟨x0,x1⟩
  | _,_=>none
 | _=>none
def tQ:List AV→Option Impt
 | [c0,c1,c2,c3,c4,c5,c6]=>
  match dZ c0,gM [c1,c2,c3,c4],eI (.st .bound) c5,asInt .i64 c6 with
  | some x0,some x1,some x5,some x6=>some ⟨x0,x1,x5,x6⟩
  | _,_,_,_=>none
 | _=>none
def pS:List AV→Option Dcl
 | [c0,c1,c2,c3,c4,c5,c6,c7,c8,c9,c10,c11,c12,c13,c14,c15,c16]=>
  match asInt .i64 c0,dZ c1,iA [c2,c3,c4,c5,c6],mU [c7,c8,c9,c10,c11,c12,c13,c14,c15],asInt .i64 c16 with
  | some x0,some x1,some x2,some x7,some x16=>some ⟨x0,x1,x2,x7,x16⟩
  | _,_,_,_,_=>none
 | _=>none
def pT:List AV→Option Modu
 | [c0,c1,c2,c3,c4]=>
  match dZ c0,eI (.st .imp) c1,eI (.st .decl) c2,eI .str c3,asInt .i64 c4 with
  | some x0,some x1,some x2,some x3,some x4=>some ⟨x0,x1,x2,x3,x4⟩
  | _,_,_,_,_=>none
 | _=>none
def pU:List AV→Option Bndg
 | [c0,c1,c2,c3,c4,c5,c6]=>
  match dZ c0,dZ c1,iA [c2,c3,c4,c5,c6] with
  | some x0,some x1,some x2=>some ⟨x0,x1,x2⟩
  | _,_,_=>none
 | _=>none
def tR:List AV→Option Envt
 | [c0,c1,c2,c3]=>
  match dZ c0,eI (.st .bind) c1,eI (.st .bind) c2,eI (.st .bind) c3 with
  | some x0,some x1,some x2,some x3=>some ⟨x0,x1,x2,x3⟩
  | _,_,_,_=>none
 | _=>none
def tS:List AV→Option Depd
 | [c0,c1]=>
  match dZ c0,eI (.st .item) c1 with
  | some x0,some x1=>some ⟨x0,x1⟩
  | _,_=>none
 | _=>none
def pB:List AV→Option Vlu
 | [c0,c1,c2,c3,c4,c5]=>
  match asInt .i64 c0,asInt .i64 c1,dZ c2,dZ c3,eI .str c4,eI (.st .val) c5 with
  | some x0,some x1,some x2,some x3,some x4,some x5=>some ⟨x0,x1,x2,x3,x4,x5⟩
  | _,_,_,_,_,_=>none
 | _=>none
def pV:List AV→Option Cel
 | [c0,c1,c2,c3,c4,c5,c6]=>
  match dZ c0,pB [c1,c2,c3,c4,c5,c6] with
  | some x0,some x1=>some ⟨x0,x1⟩
  | _,_=>none
 | _=>none
def yn:List AV→Option Opn
 | [c0,c1,c2,c3,c4,c5]=>
  match asInt .i64 c0,asInt .i64 c1,dZ c2,eI .str c3,eI (.int .i64) c4,asInt .i64 c5 with
  | some x0,some x1,some x2,some x3,some x4,some x5=>some ⟨x0,x1,x2,x3,x4,x5⟩
  | _,_,_,_,_,_=>none
 | _=>none
def nS:List AV→Option Chnk
 | [c0,c1]=>
  match asInt .i64 c0,eI (.st .op) c1 with
  | some x0,some x1=>some ⟨x0,x1⟩
  | _,_=>none
 | _=>none
def tT:List AV→Option Usg
 | [c0,c1]=>
  match dZ c0,dZ c1 with
  | some x0,some x1=>some ⟨x0,x1⟩
  | _,_=>none
 | _=>none
def yo:List AV→Option Nam
 | [c0,c1]=>
  match dZ c0,dZ c1 with
  | some x0,some x1=>some ⟨x0,x1⟩
  | _,_=>none
 | _=>none
def tU:List AV→Option Stt
 | [c0,c1]=>
  match asInt .i64 c0,asInt .i64 c1 with
  | some x0,some x1=>some ⟨x0,x1⟩
  | _,_=>none
 | _=>none
def tV:List AV→Option Par
 | [c0,c1,c2,c3]=>
  match eI (.st .token) c0,asInt .i64 c1,asInt .i64 c2,asInt .i64 c3 with
  | some x0,some x1,some x2,some x3=>some ⟨x0,x1,x2,x3⟩
  | _,_,_,_=>none
 | _=>none
def pW:List AV→Option Rstt
 | [c0,c1,c2]=>
  match pA c0,asInt .i64 c1,asInt .i64 c2 with
  | some x0,some x1,some x2=>some ⟨x0,x1,x2⟩
  | _,_,_=>none
 | _=>none
def tW:(τ:Ty)→List AV→Option (den τ)
 | .int k,[a]=>asInt k a
 | .bool,[a]=>pA a
 | .str,[a]=>dZ a
 | .lst t,[a]=>eI t a
 | .pt n,[a]=>Iw n a
 | .st .shape,cs=>iA cs
 | .st .item,cs=>pR cs
 | .st .change,cs=>mz cs
 | .st .token,cs=>nP cs
 | .st .fault,cs=>nQ cs
 | .st .term,cs=>mU cs
 | .st .version,cs=>gM cs
 | .st .bound,cs=>nR cs
 | .st .imp,cs=>tQ cs
 | .st .decl,cs=>pS cs
 | .st .modu,cs=>pT cs
 | .st .bind,cs=>pU cs
 | .st .env,cs=>tR cs
 | .st .dep,cs=>tS cs
 | .st .val,cs=>pB cs
 | .st .cell,cs=>pV cs
 | .st .op,cs=>yn cs
 | .st .chunk,cs=>nS cs
 | .st .usg,cs=>tT cs
 | .st .nm,cs=>yo cs
 | .st .stt,cs=>tU cs
 | .st .par,cs=>tV cs
 | .st .rstt,cs=>pW cs
 | _,_=>none
def GR:Ty→Bool
 | .st _=>true
 | _=>false
def inj:(τ:Ty)→den τ→AV
 | .int k,n=>.int k n
 | .bool,b=>.bool b
 | .str,s=>.str s
 | .lst t,l=>.lst t l none
 | .pt n,x=>.pt n x
 | .st n,x=>.st n x
def bj (τ:Ty) (xs:List (den τ)):List AV:=xs.flatMap (cells τ)
def aa:AV→List AV
 | .agg cs=>cs
 | .st n x=>cells (.st n) x
 | .row τ xs=>bj τ xs
 | a=>[a]
def arg:(τ:Ty)→AV→Option (den τ)
 | .st m,.st n x=>mT n m x
 | .st m,.agg cs=>tW (.st m) cs
 | .st _,_=>none
 | τ,a=>tW τ [a]
def kG:(n:SN)→Nat→SD n→Option AV
 | .item,2,x=>some (.st .shape (Item.shape x))
 | .bound,1,x=>some (.st .version (Bnd.v x))
 | .imp,1,x=>some (.st .version (Impt.pin x))
 | .decl,2,x=>some (.st .shape (Dcl.shape x))
 | .decl,7,x=>some (.st .term (Dcl.term x))
 | .bind,2,x=>some (.st .shape (Bndg.shape x))
 | .cell,1,x=>some (.st .val (Cel.value x))
 | _,_,_=>none
def DZ:(n:SN)→Nat→SD n→AV→Option AV
 | .item,2,x,.st .shape y=>some (.st .item ({(show Item from x) with shape:=y}:Item))
 | .bound,1,x,.st .version y=>some (.st .bound ({(show Bnd from x) with v:=y}:Bnd))
 | .imp,1,x,.st .version y=>some (.st .imp ({(show Impt from x) with pin:=y}:Impt))
 | .decl,2,x,.st .shape y=>some (.st .decl ({(show Dcl from x) with shape:=y}:Dcl))
 | .decl,7,x,.st .term y=>some (.st .decl ({(show Dcl from x) with term:=y}:Dcl))
 | .bind,2,x,.st .shape y=>some (.st .bind ({(show Bndg from x) with shape:=y}:Bndg))
 | .cell,1,x,.st .val y=>some (.st .cell ({(show Cel from x) with value:=y}:Cel))
 | _,_,_,_=>none
inductive SObj where
 | box (c:AV)
 | tail (τ:Ty) (n:Nat)
 | map (κ τ:Ty) (m:List (den κ × den τ))
 | bld (t u:Nat) (l:Str)
 | tailp (τ:Ty) (n:Nat) (x:den τ)
structure St where
 t:List (Nat × AV)
 b:List (Nat × SObj)
def bL:List (Nat × AV)→Nat→AV
 | [],_=>.undef
 | (j,v) ::r,i=>if j ==i then v else bL r i
def pX:List (Nat × AV)→Nat→AV→List (Nat × AV)
 | [],i,v=>[(i,v)]
 | (j,u) ::r,i,v=>if j ==i then (i,v) ::r else (j,u) ::pX r i v
def ax:List (Nat × SObj)→Nat→Option SObj
 | [],_=>none
 | (j,v) ::r,i=>if j ==i then some v else ax r i
def nT:List (Nat × SObj)→Nat→SObj→List (Nat × SObj)
 | [],i,v=>[(i,v)]
 | (j,u) ::r,i,v=>if j ==i then (i,v) ::r else (j,u) ::nT r i v
inductive TI where
 | int (k:IntKind) | bool | str | slice (e:Nat) | ptr (e:Nat) | strct (e:Bool) (fs:List (Nat × Nat)) | map (k e:Nat) | iface | arr (e n:Nat) | other
structure TR where
 ti:TI
 size:Nat
 bytes:Nat
 zero:List AV
 ty:Option Ty
structure Ans where
 ob:Option Prop
 pan:Option (Bool × AV × List (Nat × SObj))
 val:AV
 upd:List (Nat × SObj)
def Ans.ret (v:AV):Ans:=⟨none,none,v,[]⟩
structure Cfg where
 tbl:List (Nat × TR)
 spec:Nat→List AV→List (Nat × SObj)→Option Ans
 keeps:Nat→Bool
 lends:Nat→List (Option Nat)
 pend:Nat→Bool:=fun _=>false
 rows:Nat→Bool:=fun _=>false
 same:Nat→Bool:=fun _=>false
def b5:List (Nat × TR)→Nat→Option TR
 | [],_=>none
 | (j,r) ::l,t=>if j ==t then some r else b5 l t
def TR.isAgg (r:TR):Bool:=
 match r.ti with
 | .strct _ _=>true
 | .arr _ _=>true
 | _=>false
structure Eff where
 ob:Option Prop
 val:AV
 upd:List (Nat × SObj)
def Eff.pure (v:AV):Eff:=⟨none,v,[]⟩
def Eff.asks (e:Eff):Prop:=match e.ob with | none=>True | some p=>p
def inR (k:IntKind) (n:Int):Prop:=k.min<=n/\n<=k.max
def GT:IntKind→Nat
 | .i8=>127 | .i16=>32767 | .i32=>2147483647 | .i64=>9223372036854775807
 | .u8=>255 | .u16=>65535 | .u32=>4294967295 | .u64=>18446744073709551615
def AU:IntKind→Bool
 | .i8 | .i16 | .i32 | .i64=>true
 | _=>false
def okC (k:IntKind):Int→Bool
 | .ofNat m=>Nat.ble m (GT k)
 | .negSucc m=>if AU k then Nat.ble m (GT k) else false
def gN {α:Type}:List α→Nat→Bool
 | [],0=>true
 | _ ::r,n+1=>gN r n
 | _,_=>false
def mV {α:Type}:List α→Nat→Bool
 | [],_=>true
 | _ ::r,n+1=>mV r n
 | _ ::_,0=>false
def nth {α:Type}:List α→Nat→Option α
 | [],_=>none
 | a ::_,0=>some a
 | _ ::r,n+1=>nth r n
def oK:List AV→Nat→Option (List AV)
 | _,0=>some []
 | a ::r,n+1=>(match oK r n with | some l=>some (a ::l) | none=>none)
 | [],_+1=>none
def me:List AV→Nat→Option (List AV)
 | l,0=>some l
 | _ ::r,n+1=>me r n
 | [],_+1=>none
def cE:Value→AV
 | .int k n=>if okC k n then .int k n else .undef
 | .bool b=>.bool b
 | .string s=>if mV s.data.toList 100000 then .str s.data.toList else .undef
 | .slice none 0 0=>.nils
 | .pointer none=>.nilp
 | .nilIface=>.nilif
 | _=>.undef
def mW:Value→AV
 | .agg cs=>.agg (cs.toList.map cE)
 | v=>cE v
def opd (T:Nat→AV):Operand→AV
 | .tmp t=>T t
 | .const v=>mW v
 | .func f=>.fn f []
 | .global _=>.undef
def yp (op:BinOp) (k:IntKind) (a b:Int):Option Eff:=
 match op with
 | .add=>some ⟨some (inR k (a+b)),.int k (a+b),[]⟩
 | .sub=>some ⟨some (inR k (a - b)),.int k (a - b),[]⟩
 | .mul=>some ⟨some (inR k (a *b)),.int k (a *b),[]⟩
 | .quo=>some ⟨some (b≠0/\inR k (a.tdiv b)),.int k (a.tdiv b),[]⟩
 | .rem=>some ⟨some (b≠0/\inR k (a.tmod b)),.int k (a.tmod b),[]⟩
 | .eql=>some (.pure (.bool (decide (a=b))))
 | .neq=>some (.pure (.bool (!decide (a=b))))
 | .lss=>some (.pure (.bool (decide (a < b))))
 | .leq=>some (.pure (.bool (decide (a<=b))))
 | .gtr=>some (.pure (.bool (decide (b < a))))
 | .geq=>some (.pure (.bool (decide (b<=a))))
 | _=>none
def yq (op:BinOp) (a b:Str):Option Eff:=
 match op with
 | .add=>some ⟨some (a.length+b.length<=9223372036854775807),.str (a++b),[]⟩
 | .eql=>some (.pure (.bool (decide (a=b))))
 | .neq=>some (.pure (.bool (!decide (a=b))))
 | .lss=>some (.pure (.bool (Op.bytesLess a b)))
 | .leq=>some (.pure (.bool (Op.bytesLess a b || decide (a=b))))
 | .gtr=>some (.pure (.bool (!(Op.bytesLess a b || decide (a=b)))))
 | .geq=>some (.pure (.bool (!Op.bytesLess a b)))
 | _=>none
def tX (op:BinOp) (a b:Bool):Option Eff:=
 match op with
 | .eql=>some (.pure (.bool (a ==b)))
 | .neq=>some (.pure (.bool (!(a ==b))))
 | _=>none
def sub (cs:List AV) (off n:Nat):Option (List AV):=
 match me cs off with
 | some cs=>oK cs n
 | none=>none
def eB (r:TR) (cs:List AV):Option AV:=
 if r.isAgg then some (.agg cs) else (match cs with | [c]=>some c | _=>none)
def kH:List AV→List AV→Option (List AV)
 | cs,[]=>some cs
 | _ ::cs,v ::vs=>(match kH cs vs with | some l=>some (v ::l) | none=>none)
 | [],_ ::_=>none
def splice:List AV→Nat→List AV→Option (List AV)
 | cs,0,vs=>kH cs vs
 | c ::cs,n+1,vs=>(match splice cs n vs with | some l=>some (c ::l) | none=>none)
 | [],_+1,_=>none
def mb:AV→Bool
 | .undef | .agg _ | .tup _ | .st _ _ | .row _ _=>false
 | _=>true
def mf (r:TR) (c:AV) (off:Nat):Option AV:=
 match c,off,r.ty with
 | .st n x,0,some (.st m)=>
  if n=m then some (.st n x) else (match sub (aa (.st n x)) 0 r.size with | some cs=>eB r cs | none=>none)
 | .st n x,o+1,some (.st m)=>
  (match kG n (o+1) x with
  | some (.st m' y)=>if m'=m then some (.st m' y) else none
  | _=>(match sub (aa (.st n x)) (o+1) r.size with | some cs=>eB r cs | none=>none))
 | c,off,_=>(match sub (aa c) off r.size with | some cs=>eB r cs | none=>none)
def tY (r:TR) (c:AV) (off:Nat) (v:AV):Option AV:=
 if (aa v).all mb && gN (aa v) r.size then
  (match off with
  | 0=>if gN (aa c) r.size then some v else (match splice (aa c) 0 (aa v) with | some cs=>some (.agg cs) | none=>none)
  | o+1=>(match splice (aa c) (o+1) (aa v) with | some cs=>some (.agg cs) | none=>none))
 else none
def vJ (fs:List (Nat × Nat)) (size:Nat→Option Nat) (zero:List AV):List (Nat × AV)→Option (List AV)
 | []=>some zero
 | (i,v) ::r=>
  match nth fs i with
  | some (off,t)=>
   (match size t with
   | some n=>if (aa v).all mb && gN (aa v) n then (match splice zero off (aa v) with | some z=>vJ fs size z r | none=>none) else none
   | none=>none)
  | none=>none
def pY (τ:Ty) (i:Nat):List (Nat × AV)→Option (List (den τ))
 | []=>some []
 | (j,v) ::r=>
  if j ==i then
   (match arg τ v,pY τ (i+1) r with
    | some x,some l=>some (x ::l)
    | _,_=>none)
  else none
def pC (r:TR) (f:Nat):Option (Nat × Nat):=
 match r.ti with
 | .strct _ fs=>nth fs f
 | _=>none
def bnd (T:Nat→AV):Option Operand→Option (Option Int)
 | none=>some none
 | some x=>match opd T x with
  | .int .i64 n=>some (some n)
  | _=>none
def aJ (s:Str):List Int:=s.map fun b=>(b.toNat:Int)
def pD (C:Cfg) (t:Nat) (dst:Nat) (x y:AV) (look:Nat→Option SObj):Option Eff:=
 match b5 C.tbl t with
 | some ⟨.slice e,_,_,_,_⟩=>
  (match b5 C.tbl e with
  | some re=>
   (match x,y with
   | .lst τ xs (some k),.lst σ ys _=>
    (match kF σ τ ys,look k with
    | some [z],some (.tail τ' n)=>
     if τ'=τ/\re.ty=some τ then
      some ⟨some (xs.length=n/\(xs.length+1) *re.bytes<=140737488355328),.lstp τ xs k,[(k,.tailp τ xs.length z)]⟩
     else none
    | _,_=>none)
   | .nils,.lst σ [z] _=>
    (match look dst with
    | none=>if re.ty=some σ then some ⟨some (1 *re.bytes<=140737488355328),.lstp σ [] dst,[(dst,.tailp σ 0 z)]⟩ else none
    | _=>none)
   | _,_=>none)
  | none=>none)
 | _=>none
def tZ (C:Cfg) (t:Nat) (dst:Nat) (x y:AV) (look:Nat→Option SObj):Option Eff:=
 match b5 C.tbl t with
 | some ⟨.slice e,_,_,_,_⟩=>
  (match b5 C.tbl e with
  | some re=>
   (match x,y with
   | .nils,.nils=>some (.pure .nils)
   | .lst τ xs o,.nils=>some (.pure (.lst τ xs o))
   | .lst τ xs (some k),.lst σ ys _=>
    (match kF σ τ ys,look k with
    | some ys,some (.tail τ' n)=>
     if τ'=τ/\re.ty=some τ then
      some ⟨some (xs.length=n/\(xs.length+ys.length) *re.bytes<=140737488355328),.lst τ (xs++ys) (some k),[(k,.tail τ (xs++ys).length)]⟩
     else none
    | _,_=>none)
   | .nils,.lst σ ys _=>
    (match look dst with
    | none=>if re.ty=some σ then some ⟨some (ys.length *re.bytes<=140737488355328),.lst σ ys (some dst),[(dst,.tail σ ys.length)]⟩ else none
    | _=>none)
   | _,_=>none)
  | none=>none)
 | _=>none
def jN (xs:List Int):Str:=xs.map fun n=>UInt8.ofNat n.toNat
def pE (C:Cfg) (t t':Nat) (x:AV) (s:Str) (look:Nat→Option SObj):Option Eff:=
 match b5 C.tbl t,b5 C.tbl t' with
 | some ⟨.slice e,_,_,_,_⟩,some ⟨.str,_,_,_,_⟩=>
  (match b5 C.tbl e with
  | some ⟨.int .u8,_,bytes,_,some (.int .u8)⟩=>
   (match x with
   | .lst (.int .u8) xs (some k)=>
    (match look k with
    | some (.tail (.int .u8) n)=>
     some ⟨some (xs.length=n/\(xs.length+s.length) *bytes<=140737488355328),.lst (.int .u8) (xs++aJ s) (some k),[(k,.tail (.int .u8) (xs++aJ s).length)]⟩
    | _=>none)
   | _=>none)
  | _=>none)
 | _,_=>none
def If (C:Cfg) (s d:Nat) (x:AV):Option Eff:=
 match b5 C.tbl s,b5 C.tbl d,x with
 | some ⟨.slice e,_,_,_,_⟩,some ⟨.str,_,_,_,_⟩,.lst (.int .u8) xs _=>
  (match b5 C.tbl e with
  | some ⟨.int .u8,_,_,_,some (.int .u8)⟩=>some (.pure (.str (jN xs)))
  | _=>none)
 | some ⟨.str,_,_,_,_⟩,some ⟨.slice e,_,_,_,_⟩,.str s=>
  (match b5 C.tbl e with
  | some ⟨.int .u8,_,_,_,some (.int .u8)⟩=>some (.pure (.lst (.int .u8) (aJ s) none))
  | _=>none)
 | _,_,_=>none
def ids:AV→List Nat
 | .ptr i _=>[i]
 | .lst _ _ (some i)=>[i]
 | .agg cs=>idsL cs
 | .tup cs=>idsL cs
 | .fn _ cs=>idsL cs
 | .cptr c=>ids c
 | .arr i _ _=>[i]
 | .aptr i _ _ _=>[i]
 | .map i=>[i]
 | .bptr i=>[i]
 | .iface _ a=>ids a
 | .lstp _ _ k=>[k]
 | .tptr _ _ k=>[k]
 | _=>[]
where idsL:List AV→List Nat
 | []=>[]
 | a ::r=>ids a++idsL r
def yr:SObj→List Nat
 | .box c=>ids c
 | _=>[]
mutual
def mapV (fp:Nat→Nat→Option (Nat × Nat)) (fi ft:Nat→Option Nat):AV→Option AV
 | .ptr i o=>(match fp i o with | some (j,p)=>some (.ptr j p) | none=>none)
 | .lst τ xs o=>(match o with | some k=>some (.lst τ xs (ft k)) | none=>some (.lst τ xs none))
 | .cptr c=>(match mapV fp fi ft c with | some c=>some (.cptr c) | none=>none)
 | .agg cs=>(match mapVs fp fi ft cs with | some cs=>some (.agg cs) | none=>none)
 | .tup cs=>(match mapVs fp fi ft cs with | some cs=>some (.tup cs) | none=>none)
 | .fn f cs=>(match mapVs fp fi ft cs with | some cs=>some (.fn f cs) | none=>none)
 | .arr i n w=>(match fi i with | some j=>some (.arr j n w) | none=>none)
 | .aptr i n w o=>(match fi i with | some j=>some (.aptr j n w o) | none=>none)
 | .map i=>(match fi i with | some j=>some (.map j) | none=>none)
 | .bptr i=>(match fi i with | some j=>some (.bptr j) | none=>none)
 | .iface t a=>(match mapV fp fi ft a with | some a=>some (.iface t a) | none=>none)
 | .lstp _ _ _=>none
 | .tptr _ _ _=>none
 | a=>some a
def mapVs (fp:Nat→Nat→Option (Nat × Nat)) (fi ft:Nat→Option Nat):List AV→Option (List AV)
 | []=>some []
 | a ::r=>(match mapV fp fi ft a,mapVs fp fi ft r with | some a,some r=>some (a ::r) | _,_=>none)
end
abbrev dY:=Nat × Option (Nat × Nat)
def ky (look:Nat→Option SObj):Nat→List Nat→List Nat→List Nat
 | 0,_,acc=>acc
 | _+1,[],acc=>acc
 | n+1,i ::r,acc=>
  if acc.contains i then ky look n r acc
  else ky look n (r++(match look i with | some o=>yr o | none=>[])) (acc++[i])
def idx:List dY→Nat→Nat→Option (Nat × Option (Nat × Nat))
 | [],_,_=>none
 | (j,r) ::l,i,k=>if j ==i then some (k,r) else idx l i (k+1)
def cP (i:Nat):Bool:=Nat.ble 900 i && Nat.blt i 1000
def toP (L:List dY) (i o:Nat):Option (Nat × Nat):=
 match idx L i 900 with
 | some (k,none)=>some (k,o)
 | some (k,some (off,len))=>if Nat.ble off o && Nat.blt o (off+len) then some (k,o - off) else none
 | none=>none
def toI (L:List dY) (i:Nat):Option Nat:=
 match idx L i 900 with
 | some (k,none)=>some k
 | _=>none
def nid (d k:Nat):Nat:=(k+1) *1000+d
def bp (L:List dY) (k:Nat):Option dY:=if Nat.ble 900 k then nth L (k - 900) else none
def oL (L:List dY) (d k o:Nat):Option (Nat × Nat):=
 match bp L k with
 | some (i,none)=>some (i,o)
 | some (i,some (off,_))=>some (i,off+o)
 | none=>some (nid d k,o)
def ie (L:List dY) (d k:Nat):Option Nat:=
 match bp L k with
 | some (i,none)=>some i
 | some (_,some _)=>none
 | none=>some (nid d k)
def E2 (c:AV) (off len:Nat):Option AV:=match sub (aa c) off len with | some cs=>some (.agg cs) | none=>none
def E3 (c:AV):Option (Nat × Nat)→Option AV
 | none=>some c
 | some (off,len)=>
  match c with
  | .st n x=>
   (match kG n off x with
   | some (.st m y)=>if ab (.st m)=len then some (.st m y) else E2 (.st n x) off len
   | _=>E2 (.st n x) off len)
  | c=>E2 c off len
def GU (c:AV) (off:Nat) (d:AV):Option AV:=match splice (aa c) off (aa d) with | some cs=>some (.agg cs) | none=>none
def GV (c:AV) (r:Option (Nat × Nat)) (d:AV):Option AV:=
 match r with
 | none=>some d
 | some (off,len)=>
  if gN (aa d) len then
   (match c with
   | .st n x=>(match DZ n off x d with | some a=>some a | none=>GU (.st n x) off d)
   | c=>GU c off d)
  else none
def gd (L:List dY) (r:Option (Nat × Nat)):SObj→Option SObj
 | .box c=>
  (match E3 c r with
  | some c=>(match mapV (toP L) (toI L) (toI L) c with | some c=>some (.box c) | none=>none)
  | none=>none)
 | .tailp _ _ _=>none
 | o=>(match r with | none=>some o | some _=>none)
def mX (look:Nat→Option SObj) (L:List dY):List dY→Nat→Option (List (Nat × SObj))
 | [],_=>some []
 | (i,r) ::l,k=>
  match look i with
  | some o=>(match gd L r o,mX look L l (k+1) with | some o,some l=>some ((k,o) ::l) | _,_=>none)
  | none=>none
def iK (L:List dY) (d:Nat) (r:Option (Nat × Nat)) (old:Option SObj):SObj→Option SObj
 | .box c=>
  (match mapV (oL L d) (ie L d) (ie L d) c with
  | some c=>(match old with | some (.box b)=>(match GV b r c with | some c=>some (.box c) | none=>none) | none=>some (.box c) | _=>none)
  | none=>none)
 | .tailp _ _ _=>none
 | o=>(match r with | none=>some o | some _=>none)
def kz (look:Nat→Option SObj) (L:List dY) (d:Nat):List (Nat × SObj)→Option (List (Nat × SObj))
 | []=>some []
 | (k,o) ::u=>
  match bp L k with
  | some (i,r)=>
   (match look i with
   | some old=>(match iK L d r (some old) o,kz look L d u with | some o,some u=>some ((i,o) ::u) | _,_=>none)
   | none=>none)
  | none=>
   (match look (nid d k) with
   | none=>(match iK L d none none o,kz look L d u with | some o,some u=>some ((nid d k,o) ::u) | _,_=>none)
   | some _=>none)
def fL (L:List dY) (d:Nat) (u:List (Nat × SObj)):List Nat:=
 u.filterMap fun x=>match bp L x.1 with | some _=>none | none=>some (nid d x.1)
def ig (S u:List (Nat × SObj)):List (Nat × SObj):=u++S.filter fun x=>!(u.map (·.1)).contains x.1
def yt (i:Nat):List AV→List (Option Nat)→Option (Nat × Nat)
 | .ptr j o ::r,n ::ns=>if j ==i then (match n with | some n=>some (o,n) | none=>none) else yt i r ns
 | _ ::r,_ ::ns=>yt i r ns
 | _,_=>none
def AW (look:Nat→Option SObj) (i:Nat):Bool:=match look i with | some (.box _)=>true | _=>false
structure CallR where
 foot:List Nat
 eff:Eff
 pan:Option (Bool × AV × List (Nat × SObj))
def cn:List Nat→Bool
 | []=>true
 | a ::r=>!r.contains a && cn r
def gu (C:Cfg) (f:Nat) (args:List AV) (look:Nat→Option SObj):List dY:=
 (ky look 64 (ids.idsL args) []).map fun i=>(i,if AW look i then yt i args (C.lends f) else none)
def AX (look:Nat→Option SObj) (L:List dY) (S:List (Nat × SObj)) (d:Nat) (A:Ans):Option CallR:=
 match mapV (oL L d) (ie L d) (ie L d) A.val,kz look L d (ig S A.upd),cn (A.upd.map (·.1)) with
 | some v,some u,true=>
  (match A.pan with
  | none=>some ⟨fL L d A.upd,⟨A.ob,v,u⟩,none⟩
  | some (b,pv,pu)=>
   (match mapV (oL L d) (ie L d) (ie L d) pv,kz look L d (ig S pu),cn (pu.map (·.1)) with
   | some pv,some pu',true=>some ⟨fL L d A.upd++fL L d pu,⟨A.ob,v,u⟩,some (b,pv,pu')⟩
   | _,_,_=>none))
 | _,_,_=>none
def jO (keeps:Bool) (args:List AV):Option (List AV):=
 match keeps with
 | true=>some args
 | false=>mapVs (fun i o=>some (i,o)) some (fun _=>none) args
def E4 (C:Cfg) (d:Nat) (f:Nat) (args:List AV) (look:Nat→Option SObj) (L:List dY):Option CallR:=
 match cn (L.map (·.1)) && Nat.blt d 1000 && Nat.ble L.length 100 with
 | true=>
  (match mapVs (toP L) (toI L) (toI L) args,mX look L L 900 with
  | some as,some S=>(match C.spec f as S with | some A=>AX look L S d A | none=>none)
  | _,_=>none)
 | false=>none
def pZ (C:Cfg) (d:Nat) (f:Nat) (args:List AV) (look:Nat→Option SObj):Option CallR:=
 match jO (C.keeps f) args with
 | none=>none
 | some args=>E4 C d f args look (gu C f args look)
def dJ (T:Nat→AV) (c:Call):Option (Nat × List AV):=
 match c.callee with
 | .value (.func f)=>some (f,c.args.toList.map (opd T))
 | .value (.tmp t)=>(match T t with | .fn f caps=>some (f,c.args.toList.map (opd T)++caps) | _=>none)
 | _=>none
def gw (C:Cfg) (o:Oper) (T:Nat→AV) (look:Nat→Option SObj):Option CallR:=
 match o.op,o.dst with
 | .call c,some d=>(match dJ T c with | some (f,args)=>pZ C d f args look | none=>none)
 | _,_=>none
def iY (look:Nat→Option SObj):List (Nat × SObj)→Prop
 | []=>True
 | (i,o) ::r=>(match look i with | some o'=>o'=o/\iY look r | none=>iY look r)
def vK (look:Nat→Option SObj):List (Nat × SObj)→List (Nat × SObj)
 | []=>[]
 | (i,o) ::r=>(match look i with | some _=>vK look r | none=>(i,o) ::vK look r)
def fM (b:Bool) (look:Nat→Option SObj) (e:Eff):Eff:=
 match b with
 | false=>e
 | true=>⟨some (e.asks/\iY look e.upd),e.val,vK look e.upd⟩
def E5 (b:Bool) (u:List (Nat × SObj)):List Nat:=match b with | true=>u.map (·.1) | false=>[]
def kI (C:Cfg) (o:Oper):Bool:=match o.dst with | some d=>C.same d | none=>false
def b8 (C:Cfg) (o:Oper) (T:Nat→AV) (look:Nat→Option SObj):List Nat:=
 match o.op with
 | .alloc _ | .box .. | .buildSlice .. | .makeSlice .. | .makeMap ..=>o.dst.toList
 | .load _ a | .store _ a _=>(match opd T a with | .ptr id _=>[id] | .aptr id _ _ _=>[id] | .tptr _ _ k=>[k] | _=>[])
 | .lookup _ x _ _=>(match opd T x with | .map id=>[id] | _=>[])
 | .mapUpdate _ x _ _ | .insert _ x _ _=>(match opd T x with | .map id=>[id] | _=>[])
 | .call {callee:=.builtin .append,args,..}=>
  (match args.toList with
  | [x,_]=>(match opd T x with | .lst _ _ (some k)=>[k] | .nils=>o.dst.toList | _=>[])
  | _=>[])
 | .call {callee:=.builtin .len,args,..}=>
  (match args.toList with
  | [x]=>(match opd T x with | .map id=>[id] | _=>[])
  | _=>[])
 | .call c=>
  (match dJ T c with
  | some (f,args)=>
   (match jO (C.keeps f) args with
   | some args=>(gu C f args look).map (·.1)++(match gw C o T look with | some r=>r.foot++E5 (kI C o) r.eff.upd | none=>[])
   | none=>[])
  | none=>[])
 | _=>[]
def eC (C:Cfg) (o:Oper) (T:Nat→AV) (look:Nat→Option SObj):Option (Bool × AV × List (Nat × SObj)):=
 match o.op with
 | .panic x=>some (true,opd T x,[])
 | .call _=>(match gw C o T look with | some r=>r.pan | none=>none)
 | _=>none
def fN {K V:Type} [DecidableEq K]:List (K × V)→K→Option V
 | [],_=>none
 | (a,v) ::r,k=>if k=a then some v else fN r k
def mA {K V:Type} [DecidableEq K]:List (K × V)→K→V→List (K × V)
 | [],k,v=>[(k,v)]
 | (a,u) ::r,k,v=>if k=a then (k,v) ::r else (a,u) ::mA r k v
def nU (κ τ:Ty) (m:List (den κ × den τ)) (k:AV):Option (Option (den τ)):=
 match κ,m,k with
 | .str,m,.str k=>some (fN (K:=Str) m k)
 | .int j,m,.int j' k=>if j=j' then some (fN (K:=Int) m k) else none
 | _,_,_=>none
def kJ (κ τ:Ty) (m:List (den κ × den τ)) (k:AV) (v:den τ):Option (List (den κ × den τ)):=
 match κ,m,k with
 | .str,m,.str k=>some (mA (K:=Str) m k v)
 | .int j,m,.int j' k=>if j=j' then some (mA (K:=Int) m k v) else none
 | _,_,_=>none
def J8 (r:TR) (n:SN):Bool:=
 match r.ty with
 | some (.st m)=>decide (n=m)
 | _=>false
def mY:AV→Option (List AV)
 | .agg cs=>some cs
 | .st n x=>some (cells (.st n) x)
 | _=>none
def yu:TI→AV→AV→Option Bool
 | .int _,.int j a,.int k b=>if j=k then some (decide (a=b)) else none
 | .bool,.bool a,.bool b=>some (a ==b)
 | .str,.str a,.str b=>some (decide (a=b))
 | _,_,_=>none
def E6 (C:Cfg):List (Nat × Nat)→List AV→List AV→Option Bool
 | [],_,_=>some true
 | (off,t) ::r,cs,ds=>
  match b5 C.tbl t,nth cs off,nth ds off with
  | some rt,some c,some d=>(match yu rt.ti c d,E6 C r cs ds with | some b,some b'=>some (b && b') | _,_=>none)
  | _,_,_=>none
def yw (C:Cfg) (op:BinOp) (t:Nat) (cs ds:List AV):Option Eff:=
 match b5 C.tbl t with
 | some ⟨.strct true fs,_,_,_,_⟩=>
  (match E6 C fs cs ds with
  | some b=>(match op with | .eql=>some (.pure (.bool b)) | .neq=>some (.pure (.bool (!b))) | _=>none)
  | none=>none)
 | _=>none
def AY (r:TR) (τ:Ty) (xs:List (den τ)) (i w off:Nat):Option Eff:=
 if w=ab τ then
  (match mf r (inj τ (xs.getD i (dfl τ))) off with | some v=>some ⟨some (i < xs.length),v,[]⟩ | none=>none)
 else none
def q8 (r:TR) (id:Nat) (τ:Ty) (xs:List (den τ)) (i w off:Nat) (v:AV):Option Eff:=
 if w=ab τ then
  (match tY r (inj τ (xs.getD i (dfl τ))) off v with
  | some c=>(match arg τ c with | some x=>some ⟨some (i < xs.length),.undef,[(id,.box (.row τ (xs.set i x)))]⟩ | none=>none)
  | none=>none)
 else none
def mZ:TI→Ty→Bool
 | .str,.str=>true
 | .int j,.int k=>decide (j=k)
 | _,_=>false
def u4 (C:Cfg) (t:Nat) (x k:AV) (ok:Bool) (look:Nat→Option SObj):Option Eff:=
 match b5 C.tbl t,x with
 | some ⟨.map kt e,_,_,_,_⟩,.map id=>
  (match b5 C.tbl kt,b5 C.tbl e,look id with
  | some rk,some re,some (.map κ τ m)=>
   (match tW τ re.zero,nU κ τ m k with
   | some z,some g=>
    if mZ rk.ti κ && decide (re.ty=some τ) then some (.pure (match ok with | true=>.tup [inj τ (g.getD z),.bool g.isSome] | false=>inj τ (g.getD z))) else none
   | _,_=>none)
  | _,_,_=>none)
 | _,_=>none
def jP (C:Cfg) (t:Nat) (x k v:AV) (look:Nat→Option SObj):Option Eff:=
 match b5 C.tbl t,x with
 | some ⟨.map kt _,_,_,_,_⟩,.map id=>
  (match b5 C.tbl kt,look id with
  | some rk,some (.map κ τ m)=>
   (match arg τ v with
   | some v=>(match kJ κ τ m k v with | some m=>if mZ rk.ti κ then some ⟨none,.undef,[(id,.map κ τ m)]⟩ else none | none=>none)
   | none=>none)
  | _,_=>none)
 | _,_=>none
def GW:List AV→Bool
 | []=>true
 | .int .i64 (.ofNat 0) ::r=>GW r
 | _=>false
def AZ (r:TR):Option AV:=
 match r.ti with
 | .arr _ n=>if GW r.zero && gN r.zero n then some (.row (.int .i64) (List.replicate n (0:Int))) else none
 | _=>if r.isAgg then some (.agg r.zero) else (match r.zero with | [c]=>some c | _=>none)
def Ig (tbl:List (Nat × TR)) (e:Nat) (r:TR):Option Nat:=
 match r.ti,r.zero with
 | .strct _ [(_,p),(_,s)],[.nilp,.nils]=>
  (match b5 tbl p,b5 tbl s with
  | some rp,some rs=>(match rp.ti,rs.ti with | .ptr e',.slice u=>if e'=e then some u else none | _,_=>none)
  | _,_=>none)
 | _,_=>none
def E7 (C:Cfg) (t:Nat) (x:AV) (lo hi:Option (Option Int)):Option Eff:=
  match b5 C.tbl t,x,lo,hi with
  | some ⟨.str,_,_,_,_⟩,.str s,some l,some h=>
   some ⟨some (0<=l.getD 0/\l.getD 0<=h.getD s.length/\h.getD s.length<=s.length),.str ((s.take (h.getD s.length).toNat).drop (l.getD 0).toNat),[]⟩
  | some ⟨.slice e,_,_,_,_⟩,.lst τ xs _,some l,some h=>
   (match b5 C.tbl e with
   | some re=>
    if re.ty=some τ then
     some ⟨some (0<=l.getD 0/\l.getD 0<=h.getD xs.length/\h.getD xs.length<=xs.length),.lst τ ((xs.take (h.getD xs.length).toNat).drop (l.getD 0).toNat) none,[]⟩
    else none
   | none=>none)
  | _,_,_,_=>none
def Ix (C:Cfg) (t:Nat) (x:AV) (look:Nat→Option SObj):Option Eff:=
   match b5 C.tbl t,x with
   | some ⟨.str,_,_,_,_⟩,.str s=>some (.pure (.int .i64 (s.length:Int)))
   | some ⟨.slice _,_,_,_,_⟩,.lst _ xs _=>some (.pure (.int .i64 (xs.length:Int)))
   | some ⟨.slice _,_,_,_,_⟩,.nils=>some (.pure (.int .i64 0))
   | some ⟨.slice _,_,_,_,_⟩,.arr _ n _=>some (.pure (.int .i64 n))
   | some ⟨.map _ _,_,_,_,_⟩,.map id=>(match look id with | some (.map _ _ m)=>some ⟨some (m.length<=9223372036854775807),.int .i64 (m.length:Int),[]⟩ | _=>none)
   | _,_=>none
def aK (C:Cfg) (o:Oper) (T:Nat→AV) (look:Nat→Option SObj):Option Eff:=
 match o.op with
 | .move x | .assign x=>some (.pure (opd T x))
 | .pick c a b=>(match opd T c with | .bool c=>some (.pure (if c=true then opd T a else opd T b)) | _=>none)
 | .alloc e=>
  (match o.dst,b5 C.tbl e with
  | some d,some r=>
   (match Ig C.tbl e r with
   | some u=>(match look d with | none=>some ⟨none,.bptr d,[(d,.bld e u [])]⟩ | _=>none)
   | none=>
   (match look d,AZ r with
   | none,some c=>some ⟨none,.ptr d 0,[(d,.box c)]⟩
   | _,_=>none))
  | _,_=>none)
 | .box e x=>
  (match o.dst,b5 C.tbl e with
  | some d,some r=>
   (match look d with
   | none=>if (aa (opd T x)).all mb && gN (aa (opd T x)) r.size then some ⟨none,.ptr d 0,[(d,.box (opd T x))]⟩ else none
   | _=>none)
  | _,_=>none)
 | .build t ps=>
  (match b5 C.tbl t with
  | some ⟨.strct _ fs,_,_,zero,_⟩=>
   (match vJ fs (fun t=>(b5 C.tbl t).map (·.size)) zero (ps.toList.map fun (i,x)=>(i,opd T x)) with
   | some cs=>some (.pure (.agg cs))
   | none=>none)
  | _=>none)
 | .buildSlice t len ps=>
  (match o.dst,b5 C.tbl t with
  | some d,some ⟨.slice e,_,_,_,_⟩=>
   (match b5 C.tbl e with
   | some ⟨_,size,_,_,some τ⟩=>
    (match pY τ 0 (ps.toList.map fun (i,x)=>(i,opd T x)),look d with
    | some l,none=>if (gN l len && Nat.ble (len *size) 1000000) && (ps.toList.map fun (i,x)=>(i,opd T x)).all (fun p=>(aa p.2).all mb) then (match C.rows d with | false=>some ⟨none,.lst τ l (some d),[(d,.tail τ l.length)]⟩ | true=>some ⟨none,.arr d l.length size,[(d,.box (.row τ l))]⟩) else none
    | _,_=>none)
   | _=>none)
  | _,_=>none)
 | .load t a=>
  (match b5 C.tbl t with
  | some r=>
   (match opd T a with
   | .ptr id off=>
    (match look id with
    | some (.box c)=>(mf r c off).map .pure
    | _=>none)
   | .cptr c=>(mf r c 0).map .pure
   | .aptr id i w off=>
    (match look id with
    | some (.box (.row τ xs))=>AY r τ xs i w off
    | _=>none)
   | _=>none)
  | none=>none)
 | .store t a x=>
  (match b5 C.tbl t with
  | some r=>
   (match r.size with
   | 0=>(match opd T a,aa (opd T x) with | .ptr _ _,[]=>some (.pure .undef) | _,_=>none)
   | _+1=>
   (match opd T a with
   | .ptr id off=>
    (match look id with
    | some (.box c)=>
     (match tY r c off (opd T x) with
     | some c=>some ⟨none,.undef,[(id,.box c)]⟩
     | none=>none)
    | _=>none)
   | .aptr id i w off=>
    (match look id with
    | some (.box (.row τ xs))=>q8 r id τ xs i w off (opd T x)
    | _=>none)
   | .tptr τ n k=>
    (match look k with
    | some (.tailp τ' m _)=>
     if τ'=τ then
      (match arg τ (opd T x) with
      | some v=>if (aa (opd T x)).all mb && (gN (aa (opd T x)) r.size && Nat.beq r.size (ab τ)) then some ⟨some (n=m),.undef,[(k,.tailp τ m v)]⟩ else none
      | none=>none)
     else none
    | _=>none)
   | _=>none))
  | none=>none)
 | .nilCheck x=>
  (match opd T x with
  | .ptr id off=>some (.pure (.ptr id off))
  | .cptr c=>some (.pure (.cptr c))
  | .aptr id i w off=>some (.pure (.aptr id i w off))
  | .fn f cs=>some (.pure (.fn f cs))
  | .pt n x=>some ⟨some (x.isSome=true),.cptr (.st n (x.getD (dfl (.st n)))),[]⟩
  | _=>none)
 | .binOp op t x y _=>
  (match opd T x,opd T y with
  | .int k a,.int k' b=>if k=k' then yp op k a b else none
  | .str a,.str b=>yq op a b
  | .bool a,.bool b=>(match b5 C.tbl t with | some ⟨.bool,_,_,_,_⟩=>tX op a b | _=>none)
  | .pt _ a,.nilp=>
   (match b5 C.tbl t with
   | some ⟨.ptr _,_,_,_,_⟩=>(match op with | .eql=>some (.pure (.bool a.isNone)) | .neq=>some (.pure (.bool a.isSome)) | _=>none)
   | _=>none)
  | .iface _ _,.nilif=>
   (match b5 C.tbl t with
   | some ⟨.iface,_,_,_,_⟩=>(match op with | .eql=>some (.pure (.bool false)) | .neq=>some (.pure (.bool true)) | _=>none)
   | _=>none)
  | .nilif,.nilif=>
   (match b5 C.tbl t,y with
   | some ⟨.iface,_,_,_,_⟩,.const _=>(match op with | .eql=>some (.pure (.bool true)) | .neq=>some (.pure (.bool false)) | _=>none)
   | _,_=>none)
  | x,y=>(match mY x,mY y with | some cs,some ds=>yw C op t cs ds | _,_=>none))
 | .unOp op _ x=>
  (match op,opd T x with
  | .not,.bool b=>some (.pure (.bool (!b)))
  | .neg,.int k n=>some ⟨some (inR k (0 - n)),.int k (0 - n),[]⟩
  | _,_=>none)
 | .convert s d x=>
  (match b5 C.tbl s,b5 C.tbl d,opd T x with
  | some _,some ⟨.int k,_,_,_,_⟩,.int _ n=>some ⟨some (inR k n),.int k n,[]⟩
  | some _,some ⟨.str,_,_,_,_⟩,.str s=>some (.pure (.str s))
  | _,_,x=>If C s d x)
 | .fieldAddr s x f=>
  (match b5 C.tbl s with
  | some r=>
   (match pC r f,opd T x with
   | some (off,_),.ptr id o=>some (.pure (.ptr id (o+off)))
   | some (off,_),.aptr id i w o=>some (.pure (.aptr id i w (o+off)))
   | some (off,t),.cptr c=>
    (match off,c,b5 C.tbl t with
    | off,.st n x,some ⟨_,_,_,_,some (.st m)⟩=>
     (match kG n off x with
     | some (.st m' y)=>if m'=m then some (.pure (.cptr (.st m' y))) else none
     | _=>(match me (aa (.st n x)) off with | some (c ::r)=>some (.pure (.cptr (.agg (c ::r)))) | _=>none))
    | off,c,_=>(match me (aa c) off with | some (c ::r)=>some (.pure (.cptr (.agg (c ::r)))) | _=>none))
   | _,_=>none)
  | none=>none)
 | .field s x f=>
  (match b5 C.tbl s with
  | some r=>
   (match pC r f with
   | some (off,t)=>
    (match b5 C.tbl t,opd T x with
    | some rt,.agg cs=>(mf rt (.agg cs) off).map .pure
    | some rt,.st n x=>if J8 r n then (mf rt (.st n x) off).map .pure else none
    | _,_=>none)
   | _=>none)
  | none=>none)
 | .indexAddr t x i=>
  (match b5 C.tbl t,opd T x,opd T i with
  | some ⟨.slice e,_,_,_,_⟩,.lst τ xs _,.int _ n=>
   (match b5 C.tbl e with
   | some re=>if re.ty=some τ then some ⟨some (0<=n/\n < xs.length),.cptr (inj τ (xs.getD n.toNat (dfl τ))),[]⟩ else none
   | none=>none)
  | some ⟨.slice e,_,_,_,_⟩,.arr id m w,.int _ n=>
   (match b5 C.tbl e with
   | some re=>if re.size=w then some ⟨some (0<=n/\n < m),.aptr id n.toNat w 0,[]⟩ else none
   | none=>none)
  | some ⟨.slice e,_,_,_,_⟩,.lstp τ xs k,.int _ n=>
   (match b5 C.tbl e with
   | some re=>if re.ty=some τ then some ⟨some (n=(xs.length:Int)),.tptr τ xs.length k,[]⟩ else none
   | none=>none)
  | some ⟨.arr e m,_,_,_,_⟩,.ptr id 0,.int _ n=>
   (match b5 C.tbl e with
   | some re=>some ⟨some (0<=n/\n < m),.aptr id n.toNat re.size 0,[]⟩
   | none=>none)
  | _,_,_=>none)
 | .index t x i=>
  (match b5 C.tbl t,opd T x,opd T i with
  | some ⟨.str,_,_,_,_⟩,.str s,.int _ n=>some ⟨some (0<=n/\n < s.length),.int .u8 ((s.getD n.toNat 0).toNat:Int),[]⟩
  | _,_,_=>none)
 | .slice t x lo hi none=>E7 C t (opd T x) (bnd T lo) (bnd T hi)
 | .extract x i=>(match opd T x with | .tup vs=>(nth vs i).map .pure | _=>none)
 | .call {callee:=.builtin .len,args,argTypes}=>
  (match args.toList,argTypes.toList with
  | [x],[t]=>Ix C t (opd T x) look
  | _,_=>none)
 | .call {callee:=.builtin .append,args,argTypes}=>
  (match args.toList,argTypes.toList,o.dst with
  | [x,y],[t,t'],some d=>if t ==t' then (match C.pend d with | true=>pD C t d (opd T x) (opd T y) look | false=>tZ C t d (opd T x) (opd T y) look) else (match opd T y with | .str s=>pE C t t' (opd T x) s look | _=>none)
  | _,_,_=>none)
 | .call {callee:=.builtin .max,args,..}=>
  (match args.toList with
  | [x,y]=>(match opd T x,opd T y with | .int k a,.int k' b=>if k=k' then some (.pure (.int k (max a b))) else none | _,_=>none)
  | _=>none)
 | .call {callee:=.builtin .min,args,..}=>
  (match args.toList with
  | [x,y]=>(match opd T x,opd T y with | .int k a,.int k' b=>if k=k' then some (.pure (.int k (min a b))) else none | _,_=>none)
  | _=>none)
 | .call {callee:=.builtin _,..}=>none
 | .call _=>(match gw C o T look with | some r=>some (fM (kI C o) look r.eff) | none=>none)
 | .makeFunc (.func f) first caps=>if first.isEmpty then some (.pure (.fn f (caps.toList.map (opd T)))) else none
 | .makeInterface t x=>(match b5 C.tbl t with | some r=>(match r.ti with | .iface=>none | _=>some (.pure (.iface t (opd T x)))) | none=>none)
 | .typeAssert x _ t true=>
  (match opd T x,b5 C.tbl t with
  | .iface t' a,some r=>(match r.ti with | .iface=>none | _=>if t'=t then some (.pure (.tup [a,.bool true])) else none)
  | _,_=>none)
 | .panic x=>(match opd T x with | .iface _ _=>some (.pure .undef) | _=>none)
 | .makeMap t h=>
  (match o.dst,b5 C.tbl t with
  | some d,some ⟨.map k e,_,_,_,_⟩=>
   (match b5 C.tbl k,b5 C.tbl e,look d with
   | some ⟨_,_,_,_,some κ⟩,some ⟨_,_,_,_,some τ⟩,none=>
    (match h.map (opd T) with
    | none | some (.int _ _)=>some ⟨none,.map d,[(d,.map κ τ [])]⟩
    | _=>none)
   | _,_,_=>none)
  | _,_=>none)
 | .lookup t x k ok=>u4 C t (opd T x) (opd T k) ok look
 | .mapUpdate t x k v=>jP C t (opd T x) (opd T k) (opd T v) look
 | .insert t x k v=>jP C t (opd T x) (opd T k) (opd T v) look
 | .makeSlice t n c=>
  (match o.dst,b5 C.tbl t,opd T n,opd T c with
  | some d,some ⟨.slice e,_,_,_,_⟩,.int .i64 a,.int .i64 b=>
   (match b5 C.tbl e,look d with
   | some ⟨_,size,bytes,zero,some τ⟩,none=>
    (match tW τ zero with
    | some z=>
     (match n with
     | .const (.int _ (.ofNat 0))=>some ⟨some (0<=b/\b *bytes<=140737488355328),.lst τ [] (some d),[(d,.tail τ 0)]⟩
     | _=>some ⟨some (0<=a/\a<=b/\b *bytes<=140737488355328),.arr d a.toNat size,[(d,.box (.row τ (List.replicate a.toNat z)))]⟩)
    | none=>none)
   | _,_=>none)
  | _,_,_,_=>none)
 | _=>none
def yx (t:List (Nat × AV)) (d:Option Nat) (v:AV):List (Nat × AV):=
 match d with
 | some d=>pX t d v
 | none=>t
def putB:List (Nat × SObj)→List (Nat × SObj)→List (Nat × SObj)
 | b,[]=>b
 | b,(i,o) ::r=>putB (nT b i o) r
def St.put (s:St) (d:Option Nat) (e:Eff):St:=⟨yx s.t d e.val,putB s.b e.upd⟩
def pF (ops:List Oper) (i:Nat):Bool:=ops.any fun o=>match o.guard with | some (j,_)=>j ==i | none=>false
def sp (b:Bool) (p q:Prop):Prop:=if b=true then p else q
def B2:Option Prop→Prop→Prop
 | none,q=>q
 | some p,q=>p/\q
abbrev gO:=List Nat × List Nat
def dm (C:Cfg) (ops:List Oper) (draw:Bool) (kp:AV→St→Prop):List Oper→Nat→St→List gO→(St→List gO→Prop)→Prop
 | [],_,s,fs,k=>k s fs.reverse
 | o ::r,i,s,fs,k=>
  let on:Unit→Prop:=fun _=>
   match aK C o (bL s.t) (ax s.b) with
   | none=>False
   | some e=>
    B2 e.ob
    (match eC C o (bL s.t) (ax s.b) with
    | none=>
     (match pF ops i,e.val with
     | true,.bool b=>
      sp b (dm C ops draw kp r (i+1) (s.put o.dst {e with val:=.bool true}) ((b8 C o (bL s.t) (ax s.b),e.upd.map (·.1)) ::fs) k)
       (dm C ops draw kp r (i+1) (s.put o.dst {e with val:=.bool false}) ((b8 C o (bL s.t) (ax s.b),e.upd.map (·.1)) ::fs) k)
     | true,_=>False
     | false,_=>dm C ops draw kp r (i+1) (s.put o.dst e) ((b8 C o (bL s.t) (ax s.b),e.upd.map (·.1)) ::fs) k)
    | some (b,pv,u)=>
     (match draw || pF ops i with
     | true=>False
     | false=>sp b (kp pv ⟨s.t,putB s.b u⟩) (dm C ops draw kp r (i+1) (s.put o.dst e) ((b8 C o (bL s.t) (ax s.b),e.upd.map (·.1)) ::fs) k)))
  let off:Unit→Prop:=fun _=>dm C ops draw kp r (i+1) ⟨yx s.t o.dst (.tup []),s.b⟩ (([],[]) ::fs) k
  match o.guard with
  | none=>on ()
  | some (j,want)=>
   match (nth ops j).bind (·.dst) with
   | none=>False
   | some d=>
    match bL s.t d with
    | .bool true=>if want then on () else off ()
    | .bool false=>if want then off () else on ()
    | .tup []=>off ()
    | _=>False
def yy (o:Oper):List Nat:=o.op.operands.toList.filterMap fun | .tmp t=>some t | _=>none
def jQ (ops:List Oper) (o:Oper):List Nat:=
 yy o++(match o.guard with | some (g,_)=>((nth ops g).bind (·.dst)).toList | none=>[])
def BG (a b:List Nat):Bool:=a.all fun x=>!b.contains x
def u5 (ops:List Oper) (x y:Oper):Bool:=
 (match x.dst with | some d=>!(jQ ops y).contains d && !(y.dst ==some d) | none=>true) &&
 (match y.dst with | some d=>!(jQ ops x).contains d | none=>true)
def u6 (f g:gO):Bool:=BG f.2 (g.1++g.2) && BG g.2 f.1
def q9 (acc:List Nat) (o:Oper):Nat:=(o.after.toList.filter (Region.binds .any)).foldl (init:=0) fun m e=>m ||| 2 ^ e.on ||| acc.getD e.on 0
def yz (ops:List Oper):List Nat:=ops.foldl (init:=[]) fun acc o=>acc++[q9 acc o]
def iL (ops:List Oper) (fs:List gO):Bool:=
 ((List.range ops.length).all fun j=>(List.range j).all fun i=>
  ((yz ops).getD j 0).testBit i ||
  (match nth ops i,nth ops j,nth fs i,nth fs j with
   | some x,some y,some f,some g=>u5 ops x y && u6 f g
   | _,_,_,_=>false)) &&
 (ops.zipIdx.all fun (o,j)=>o.after.all fun e=>!Region.binds .any e || Nat.blt e.on j)
def eX (A:List Nat) (s:St):Bool:=(s.t.all fun x=>BG (ids x.2) A) && (s.b.all fun x=>BG (yr x.2) A)
def vL (ops:List Oper):List Nat:=
 ops.filterMap fun o=>match o.op with
  | .alloc _ | .box .. | .buildSlice .. | .makeSlice .. | .makeMap .. | .call {callee:=.builtin .append,..}=>o.dst
  | _=>none
def B3 (ops:List Oper):List Nat:=
 ops.filterMap fun o=>match o.op with
  | .call {callee:=.value _,..}=>o.dst
  | _=>none
def E8 (ds cs:List Nat) (i:Nat):Bool:=ds.contains i || (Nat.ble 1000 i && cs.contains (i % 1000))
def enter (ops:List Oper) (s:St):Option St:=
 let A:=(s.b.map (·.1)).filter fun i=>E8 (vL ops) (B3 ops) i && !cP i
 if A.isEmpty then some s else
  let s':St:=⟨s.t.filter fun x=>!A.contains x.1,s.b.filter fun x=>!A.contains x.1⟩
  if eX A s' then some s' else none
mutual
def pubV (id:Nat) (c:AV):AV→AV
 | .ptr i o=>(match o with | 0=>if i=id then .cptr c else .ptr i 0 | o+1=>.ptr i (o+1))
 | .arr i n w=>if i=id then (match c with | .row τ xs=>if w=ab τ then .lst τ (xs.take n) none else .arr i n w | _=>.arr i n w) else .arr i n w
 | .cptr d=>.cptr (pubV id c d)
 | .agg cs=>.agg (pubVs id c cs)
 | .tup cs=>.tup (pubVs id c cs)
 | .fn f cs=>.fn f (pubVs id c cs)
 | .iface t a=>.iface t (pubV id c a)
 | a=>a
def pubVs (id:Nat) (c:AV):List AV→List AV
 | []=>[]
 | a ::r=>pubV id c a ::pubVs id c r
end
def E9 (id:Nat) (c:AV):SObj→SObj
 | .box d=>.box (pubV id c d)
 | o=>o
def Iy (id:Nat) (s:St):Option St:=
 match ax s.b id with
 | some (.box c)=>
  let s':St:=⟨s.t.map fun x=>(x.1,pubV id c x.2),(s.b.filter fun x=>!(x.1 ==id)).map fun x=>(x.1,E9 id c x.2)⟩
  if eX [id] s' && BG (ids c) [id] && !cP id then some s' else none
 | _=>none
def qa:List Nat→St→Option St
 | [],s=>some s
 | i ::r,s=>(match Iy i s with | some s=>qa r s | none=>none)
mutual
def lensV (k:Nat):AV→List Nat
 | .lstp _ xs j=>(match Nat.beq j k with | true=>[xs.length] | false=>[])
 | .cptr d=>lensV k d
 | .agg cs=>lensVs k cs
 | .tup cs=>lensVs k cs
 | .fn _ cs=>lensVs k cs
 | .iface _ a=>lensV k a
 | _=>[]
def lensVs (k:Nat):List AV→List Nat
 | []=>[]
 | a ::r=>lensV k a++lensVs k r
end
mutual
def finV (k:Nat) (τ:Ty) (x:den τ):AV→AV
 | .lstp σ xs j=>(match Nat.beq j k with | true=>(match kF τ σ [x] with | some l=>.lst σ (xs++l) (some k) | none=>.undef) | false=>.lstp σ xs j)
 | .tptr σ n j=>(match Nat.beq j k with | true=>.undef | false=>.tptr σ n j)
 | .cptr d=>.cptr (finV k τ x d)
 | .agg cs=>.agg (finVs k τ x cs)
 | .tup cs=>.tup (finVs k τ x cs)
 | .fn f cs=>.fn f (finVs k τ x cs)
 | .iface t a=>.iface t (finV k τ x a)
 | a=>a
def finVs (k:Nat) (τ:Ty) (x:den τ):List AV→List AV
 | []=>[]
 | a ::r=>finV k τ x a ::finVs k τ x r
end
def J9 (k:Nat):SObj→List Nat
 | .box c=>lensV k c
 | _=>[]
def Ea (k:Nat) (τ:Ty) (x:den τ):SObj→SObj
 | .box c=>.box (finV k τ x c)
 | o=>o
def yA (n:Nat):List Nat→Prop→Prop
 | [],q=>q
 | m ::r,q=>m=n/\yA n r q
def Eb (k:Nat) (s:St) (Q:St→Prop):Prop:=
 match ax s.b k with
 | some (.tailp τ n x)=>
  yA n (s.t.flatMap (fun y=>lensV k y.2)++s.b.flatMap (fun y=>J9 k y.2))
   (Q ⟨s.t.map fun y=>(y.1,finV k τ x y.2),(nT s.b k (.tail τ (n+1))).map fun y=>(y.1,Ea k τ x y.2)⟩)
 | _=>Q s
def BH:List Nat→St→(St→Prop)→Prop
 | [],s,Q=>Q s
 | k ::r,s,Q=>Eb k s fun s=>BH r s Q
def u7:List (Nat × SObj)→List Nat
 | []=>[]
 | (k,.tailp _ _ _) ::r=>k ::u7 r
 | _ ::r=>u7 r
def finA (s:St) (Q:St→Prop):Prop:=BH (u7 s.b) s Q
def LeF (G:List Nat):AV→AV→Prop
 | _,.undef=>True
 | .int k n,.int k' n'=>if k=k' then n=n' else False
 | .bool b,.bool b'=>b=b'
 | .str s,.str s'=>s=s'
 | .lst τ xs o,.lst σ ys p=>(match kF τ σ xs with | some xs=>xs=ys | none=>False)/\(if p=none∨p=o then True else False)
 | .nils,.lst _ ys p=>(match p with | none=>True | some k=>if G.contains k=true then True else False)/\ys=[]
 | .nils,.nils=>True
 | .nilp,.nilp=>True
 | .ptr i o,.ptr j p=>if i=j/\o=p then True else False
 | .st n x,.st m y=>(match mT n m x with | some x=>x=y | none=>False)
 | .row τ xs,.row σ ys=>(match kF τ σ xs with | some xs=>xs=ys | none=>False)
 | .arr i n w,.arr j m v=>if i=j/\w=v then n=m else False
 | .aptr i n w o,.aptr j m v p=>if i=j/\w=v/\o=p then n=m else False
 | .map i,.map j=>if i=j then True else False
 | .bptr i,.bptr j=>if i=j then True else False
 | .pt n x,.pt m y=>(match sJ n m x with | some x=>x=y | none=>False)
 | .nilp,.pt _ y=>y=none
 | .nilif,.nilif=>True
 | _,_=>False
def vM (G:List Nat):List AV→List AV→Prop
 | [],[]=>True
 | a ::r,b ::s=>LeF G a b/\vM G r s
 | _,_=>False
def vN:AV→AV→Prop
 | .agg _,.undef=>False
 | .st _ _,.undef=>False
 | .row _ _,.undef=>False
 | _,_=>True
mutual
def LeV (G:List Nat):AV→AV→Prop
 | .cptr c,.cptr d=>vN c d/\LeV G c d
 | .cptr (.st n x),.pt m y=>(match mT n m x with | some x=>some x=y | none=>False)
 | .iface t a,.iface u b=>(if t=u then True else False)/\LeV G a b
 | .agg cs,.st m y=>vM G cs (cells (.st m) y)
 | .st n x,.agg ds=>vM G (cells (.st n) x) ds
 | .agg cs,.agg ds=>LeL G cs ds
 | .tup cs,.tup ds=>LeL G cs ds
 | .fn f cs,.fn g ds=>(if f=g then True else False)/\LeL G cs ds
 | a,b=>LeF G a b
def LeL (G:List Nat):List AV→List AV→Prop
 | [],[]=>True
 | a ::r,b ::s=>LeV G a b/\LeL G r s
 | _,_=>False
end
def Ec (κ τ κ' τ':Ty) (m:List (den κ × den τ)):Option (List (den κ' × den τ')):=if h:κ=κ'/\τ=τ' then some (h.1 ▸ h.2 ▸ m) else none
def LeT (G:List Nat) (s:St):List (Nat × AV)→Prop
 | []=>True
 | (i,a) ::r=>LeV G (bL s.t i) a/\LeT G s r
def LeB (G:List Nat) (s:St):List (Nat × SObj)→Prop
 | []=>True
 | (i,.box d) ::r=>(match ax s.b i with | some (.box c)=>vN c d/\LeV G c d | _=>False)/\LeB G s r
 | (i,.tail τ n) ::r=>(match ax s.b i with | some (.tail σ m)=>(if σ=τ then m=n else False) | none=>n=0 | _=>False)/\LeB G s r
 | (i,.map κ τ m) ::r=>(match ax s.b i with | some (.map κ' τ' m')=>(match Ec κ' τ' κ τ m' with | some m'=>m'=m | none=>False) | _=>False)/\LeB G s r
 | (i,.bld t u l) ::r=>(match ax s.b i with | some (.bld t' u' l')=>(if t'=t/\u'=u then l'=l else False) | _=>False)/\LeB G s r
 | (_,.tailp _ _ _) ::_=>False
def an {α:Type} (l:List (Nat × α)):List Nat:=l.map (·.1)
def fu (s s':St):List Nat:=(an s'.b).filter fun i=>(ax s.b i).isNone
def LeS (s s':St):Prop:=
 (if eX ((an s.b).filter fun i=>!(an s'.b).contains i) s' && ((an s.b).filter fun i=>!(an s'.b).contains i).all (fun i=>!cP i) then True else False)/\LeT (fu s s') s s'.t/\LeB (fu s s') s s'.b
def chk (b:Bool) (k:Prop):Prop:=match b with | true=>k | false=>False
def cF (G:List Nat) (a b:AV) (k:Prop):Prop:=
 match a,b with
 | _,.undef=>k
 | .int j n,.int j' n'=>chk (decide (j=j')) (n=n'/\k)
 | .bool b,.bool b'=>b=b'/\k
 | .str s,.str s'=>s=s'/\k
 | .lst τ xs o,.lst σ ys p=>(match kF τ σ xs with | some xs=>chk (decide (p=none∨p=o)) (xs=ys/\k) | none=>False)
 | .nils,.lst _ ys p=>(match p with | none=>ys=[]/\k | some i=>chk (G.contains i) (ys=[]/\k))
 | .nils,.nils=>k
 | .nilp,.nilp=>k
 | .ptr i o,.ptr j p=>chk (decide (i=j/\o=p)) k
 | .st n x,.st m y=>(match mT n m x with | some x=>x=y/\k | none=>False)
 | .row τ xs,.row σ ys=>(match kF τ σ xs with | some xs=>xs=ys/\k | none=>False)
 | .arr i n w,.arr j m v=>chk (decide (i=j/\w=v)) (n=m/\k)
 | .aptr i n w o,.aptr j m v p=>chk (decide (i=j/\w=v/\o=p)) (n=m/\k)
 | .map i,.map j=>chk (decide (i=j)) k
 | .bptr i,.bptr j=>chk (decide (i=j)) k
 | .pt n x,.pt m y=>(match sJ n m x with | some x=>x=y/\k | none=>False)
 | .nilp,.pt _ y=>y=none/\k
 | .nilif,.nilif=>k
 | _,_=>False
def cFs (G:List Nat):List AV→List AV→Prop→Prop
 | [],[],k=>k
 | a ::r,b ::s,k=>cF G a b (cFs G r s k)
 | _,_,_=>False
def u9:AV→AV→Bool
 | .agg _,.undef=>false
 | .st _ _,.undef=>false
 | .row _ _,.undef=>false
 | _,_=>true
mutual
def cV (G:List Nat):AV→AV→Prop→Prop
 | .cptr c,.cptr d,k=>chk (u9 c d) (cV G c d k)
 | .cptr (.st n x),.pt m y,k=>(match mT n m x with | some x=>some x=y/\k | none=>False)
 | .iface t a,.iface u b,k=>chk (Nat.beq t u) (cV G a b k)
 | .agg cs,.st m y,k=>cFs G cs (cells (.st m) y) k
 | .st n x,.agg ds,k=>cFs G (cells (.st n) x) ds k
 | .agg cs,.agg ds,k=>cL G cs ds k
 | .tup cs,.tup ds,k=>cL G cs ds k
 | .fn f cs,.fn g ds,k=>chk (Nat.beq f g) (cL G cs ds k)
 | a,b,k=>cF G a b k
def cL (G:List Nat):List AV→List AV→Prop→Prop
 | [],[],k=>k
 | a ::r,b ::s,k=>cV G a b (cL G r s k)
 | _,_,_=>False
end
def cT (G:List Nat) (s:St):List (Nat × AV)→Prop→Prop
 | [],k=>k
 | (i,a) ::r,k=>cV G (bL s.t i) a (cT G s r k)
def cB (G:List Nat) (s:St):List (Nat × SObj)→Prop
 | []=>True
 | (i,.box d) ::r=>(match ax s.b i with | some (.box c)=>chk (u9 c d) (cV G c d (cB G s r)) | _=>False)
 | (i,.tail τ n) ::r=>
  (match ax s.b i with
  | some (.tail σ m)=>chk (decide (σ=τ)) (m=n/\cB G s r)
  | none=>n=0/\cB G s r
  | _=>False)
 | (i,.map κ τ m) ::r=>(match ax s.b i with | some (.map κ' τ' m')=>(match Ec κ' τ' κ τ m' with | some m'=>m'=m/\cB G s r | none=>False) | _=>False)
 | (i,.bld t u l) ::r=>(match ax s.b i with | some (.bld t' u' l')=>chk (decide (t'=t/\u'=u)) (l'=l/\cB G s r) | _=>False)
 | (_,.tailp _ _ _) ::_=>False
def cS (s s':St):Prop:=
 chk (eX ((an s.b).filter fun i=>!(an s'.b).contains i) s' && ((an s.b).filter fun i=>!(an s'.b).contains i).all (fun i=>!cP i))
  (cT (fu s s') s s'.t (cB (fu s s') s s'.b))
inductive SX where
 | normal | exit (id:Nat) | ret | pan (v:AV)
structure LA where
 ι:Type
 pre:ι→Prop
 t:ι→List (Nat × AV)
 b:ι→List (Nat × SObj)
 m:ι→Nat
structure An where
 l:List (Nat × (St→LA))
 p:List (Nat × List Nat)
 j:List (Nat × (St→List (Nat × AV) × List (Nat × SObj)))
def Ed:List (Nat × (St→List (Nat × AV) × List (Nat × SObj)))→Nat→Option (St→List (Nat × AV) × List (Nat × SObj))
 | [],_=>none
 | (j,x) ::r,i=>if j ==i then some x else Ed r i
def Ih:List (Nat × List Nat)→Nat→List Nat
 | [],_=>[]
 | (j,x) ::r,i=>if j ==i then x else Ih r i
def dK:Code→List Nat
 | .region _ ops _=>ops.toList.filterMap (·.dst)
 | .seq a b=>dK a++dK b
 | .cond _ a b=>dK a++dK b
 | .block _ c | .loop c | .scope c=>dK c
 | _=>[]
def jR (D:List Nat) (s:St) (ts:List (Nat × AV)) (bs:List (Nat × SObj)):St:=
 ⟨ts++s.t.filter fun x=>!D.contains x.1 && !(qb ts).contains x.1,bs++s.b.filter fun x=>!(E8 D D x.1 && !cP x.1) && !(qb bs).contains x.1⟩
where qb {α:Type} (l:List (Nat × α)):List Nat:=l.map (·.1)
def eJ:Code→Option Nat
 | .region id _ _=>some id
 | .seq a b=>(eJ a).or (eJ b)
 | .cond _ a b=>(eJ a).or (eJ b)
 | .block _ c | .loop c | .scope c=>eJ c
 | _=>none
def Ii (l:List (Nat × (St→LA))) (i:Nat):Option (St→LA):=
 match l with
 | []=>none
 | (j,a) ::r=>if j ==i then some a else Ii r i
def Ij (s:St) (t:Nat) (f:Int→LA):LA:=match bL s.t t with | .int _ n=>f n | _=>⟨Nat,fun _=>False,fun _=>[],fun _=>[],fun _=>0⟩
mutual
def forceV:AV→(AV→Prop)→Prop
 | .undef,k=>k .undef
 | .int κ n,k=>k (.int κ n)
 | .bool b,k=>k (.bool b)
 | .str s,k=>k (.str s)
 | .lst τ xs none,k=>k (.lst τ xs none)
 | .lst τ xs (some i),k=>k (.lst τ xs (some i))
 | .nils,k=>k .nils
 | .ptr i o,k=>k (.ptr i o)
 | .cptr c,k=>forceV c fun c=>k (.cptr c)
 | .nilp,k=>k .nilp
 | .st n x,k=>k (.st n x)
 | .agg cs,k=>forceL cs fun cs=>k (.agg cs)
 | .tup cs,k=>forceL cs fun cs=>k (.tup cs)
 | .fn f cs,k=>forceL cs fun cs=>k (.fn f cs)
 | .row τ xs,k=>k (.row τ xs)
 | .arr i n w,k=>k (.arr i n w)
 | .aptr i n w o,k=>k (.aptr i n w o)
 | .map i,k=>k (.map i)
 | .bptr i,k=>k (.bptr i)
 | .iface t a,k=>forceV a fun a=>k (.iface t a)
 | .nilif,k=>k .nilif
 | .pt n x,k=>k (.pt n x)
 | .lstp τ xs i,k=>k (.lstp τ xs i)
 | .tptr τ n i,k=>k (.tptr τ n i)
def forceL:List AV→(List AV→Prop)→Prop
 | [],k=>k []
 | a ::r,k=>forceV a fun a=>forceL r fun r=>k (a ::r)
end
def ua:List (Nat × AV)→(List (Nat × AV)→Prop)→Prop
 | [],k=>k []
 | (i,a) ::r,k=>forceV a fun a=>ua r fun r=>k ((i,a) ::r)
def hZ:List (Nat × SObj)→(List (Nat × SObj)→Prop)→Prop
 | [],k=>k []
 | (i,.box c) ::r,k=>forceV c fun c=>hZ r fun r=>k ((i,.box c) ::r)
 | (i,.tail τ n) ::r,k=>hZ r fun r=>k ((i,.tail τ n) ::r)
 | (i,.map κ τ m) ::r,k=>hZ r fun r=>k ((i,.map κ τ m) ::r)
 | (i,.bld t u l) ::r,k=>hZ r fun r=>k ((i,.bld t u l) ::r)
 | (i,.tailp τ n x) ::r,k=>hZ r fun r=>k ((i,.tailp τ n x) ::r)
def ii (s:St) (k:St→Prop):Prop:=ua s.t fun t=>hZ s.b fun b=>k ⟨t,b⟩
def B4:List Oper→List Nat→List Oper→List Nat
 | _,_,[]=>[]
 | ops,w,o ::r=>((jQ ops o).filter fun t=>!w.contains t)++B4 ops (o.dst.toList++w) r
def iZ:Code→List Nat
 | .region _ ops _=>B4 ops.toList [] ops.toList
 | .seq a b=>iZ a++iZ b
 | .cond (.tmp t) a b=>t ::(iZ a++iZ b)
 | .cond _ a b=>iZ a++iZ b
 | .block _ c | .loop c | .scope c=>iZ c
 | _=>[]
def Iz:ResultVar→Nat
 | .tmp t=>t
 | .cell a _=>a
def IA (fn:Func) (c:Code):List Nat:=(iZ c++fn.results.toList.map Iz).eraseDups
def trim (keep:List Nat) (s:St):St:=⟨s.t.filter fun x=>keep.contains x.1,s.b⟩
def j0:List Nat→(List Nat→Prop)→Prop
 | [],k=>k []
 | 0 ::r,k=>j0 r fun r=>k (0 ::r)
 | (n+1) ::r,k=>j0 r fun r=>k ((n+1) ::r)
def GX (c:Operand) (v:Bool) (s:St):St:=
 match c with
 | .tmp t=>⟨pX s.t t (.bool v),s.b⟩
 | _=>s
structure KL where
 m1:Nat
 src:Operand
 it:Nat
 t:Nat
 nx:Nat
 c:Nat
 en:Nat
 k1:Nat
 kv:Nat
 d1:Nat
 dst:Nat
 k2:Nat
 t2:Nat
 n:Int
def KL.wr (L:KL):List Nat:=[L.m1,L.it,L.nx,L.c,L.en,L.k1,L.kv,L.d1,L.k2]
def qb:Code→Code→Option KL
 | .region _ r1 false,.block x (.loop (.seq (.region _ r2 false) (.seq (.cond (.tmp c) .skip (.exit x2)) (.block _ (.seq (.region _ r3 false) (.region _ r4 false))))))=>
  match r1.toList,r2.toList,r3.toList,r4.toList with
  | [⟨some m1,.move src,_,_,_,none⟩,⟨some it,.range t (.tmp m1'),_,_,_,none⟩],
   [⟨some nx,.next (.tmp it') false,_,_,_,none⟩,⟨some c',.extract (.tmp nx') 0,_,_,_,none⟩],
   [⟨some en,.entry (.tmp it''),_,_,_,none⟩,⟨some k1,.extract (.tmp en') 0,_,_,_,none⟩,⟨some kv,.assign (.tmp k1'),_,_,_,none⟩],
   [⟨some d1,.move (.tmp dst),_,_,_,none⟩,⟨some k2,.move (.tmp kv'),_,_,_,none⟩,⟨none,.mapUpdate t2 (.tmp d1') (.tmp k2') (.const (.int .i64 n)),_,_,_,none⟩]=>
   if x2 ==x && m1' ==m1 && it' ==it && it'' ==it && nx' ==nx && c' ==c && en' ==en && k1' ==k1 && kv' ==kv && d1' ==d1 && k2' ==k2 && okC .i64 n
    && cn [m1,it,nx,c,en,k1,kv,d1,k2,dst] then
    some ⟨m1,src,it,t,nx,c,en,k1,kv,d1,dst,k2,t2,n⟩ else none
  | _,_,_,_=>none
 | _,_=>none
def Ee (C:Cfg) (L:KL) (s:St) (Q:SX→St→Prop):Prop:=
 match opd (bL s.t) L.src,bL s.t L.dst with
 | .map i,.map j=>
  match ax s.b i,ax s.b j,b5 C.tbl L.t,b5 C.tbl L.t2 with
  | some (.map .str _ m),some (.map .str (.int .i64) d),some ⟨.map _ _,_,_,_,_⟩,some ⟨.map kt _,_,_,_,_⟩=>
   (match b5 C.tbl kt with
   | some rk=>
    if (mZ rk.ti .str && !(i ==j))=true then
     ∀d':List (Str × Int),(d'.map (·.1)).Nodup→(∀k,fN d' k=if (fN m k).isSome=true then some L.n else fN d k)→
      Q .normal ⟨s.t.filter fun x=>!L.wr.contains x.1,nT s.b j (.map .str (.int .i64) d')⟩
    else False
   | none=>False)
  | _,_,_,_=>False
 | _,_=>False
def pG (C:Cfg) (keep:List Nat) (ops:Array Oper) (draw:Bool) (s:St) (Q:SX→St→Prop):Prop:=
 dm C ops.toList draw (fun v s=>ii s fun s=>forceV v fun v=>Q (.pan v) s) ops.toList 0 s [] fun s' fs=>finA s' fun s'=>ii (trim keep s') fun s'=>
  if draw then (if iL ops.toList fs then Q .normal s' else False) else Q .normal s'
def swp (C:Cfg) (keep:List Nat) (ann:An):Code→St→(SX→St→Prop)→Prop
 | .skip,s,Q=>Q .normal s
 | .seq a b,s,Q=>
  match qb a b with
  | some L=>Ee C L s fun x s=>ii s fun s=>Q x s
  | none=>
   match (eJ b).bind fun r=>Ed ann.j (100000+r) with
   | none=>swp C keep ann a s fun
    | .normal,s'=>swp C keep ann b s' Q
    | e,s'=>Q e s'
   | some J=>swp C keep ann a s (fun x s'=>match x with | .normal=>cS s' (jR (dK a) s (J s).1 (J s).2) | e=>Q e s')/\
     ii (jR (dK a) s (J s).1 (J s).2) fun i=>swp C keep ann b i Q
 | .cond c a b,s,Q=>
  match opd (bL s.t) c with
  | .bool b'=>sp b' (swp C keep ann a (GX c true s) Q) (swp C keep ann b (GX c false s) Q)
  | _=>False
 | .block id c,s,Q=>swp C keep ann c s fun
  | .exit j,s'=>if j ==id then Q .normal s' else Q (.exit j) s'
  | e,s'=>Q e s'
 | .exit id,s,Q=>Q (.exit id) s
 | .scope c,s,Q=>swp C keep ann c s Q
 | .label _,s,Q=>Q .normal s
 | .ret,s,Q=>Q .ret s
 | .region id ops draw,s,Q=>
  match qa (Ih ann.p id) s with
  | none=>False
  | some s=>
   match enter ops.toList s with
   | none=>False
   | some s=>
    match Ed ann.j id with
    | none=>pG C keep ops draw s Q
    | some J=>pG C keep ops draw s (fun x s'=>match x with | .normal=>cS s' (jR (dK (.region id ops draw)) s (J s).1 (J s).2) | e=>Q e s')/\
      ii (jR (dK (.region id ops draw)) s (J s).1 (J s).2) fun i=>Q .normal i
 | .loop c,s,Q=>
  match ((eJ c).bind (Ii ann.l)).map (fun A=>A s) with
  | none=>False
  | some A=>
   (∃x,A.pre x/\ii (jR (dK c) s (A.t x) (A.b x)) fun i=>cS s i)/\
   ∀x,A.pre x→ii (jR (dK c) s (A.t x) (A.b x)) fun i=>swp C keep ann c i fun
    | .normal,s'=>∃y,A.pre y/\A.m y < A.m x/\ii (jR (dK c) s (A.t y) (A.b y)) fun i=>cS s' i
    | e,s'=>Q e s'
 | _,_,_=>False
def n5 (tbl:List (Nat × TR)) (s:St):List ResultVar→Option (List AV)
 | []=>some []
 | .tmp t ::r=>(match n5 tbl s r with | some l=>some (bL s.t t ::l) | none=>none)
 | .cell a t ::r=>
  (match bL s.t a,b5 tbl t with
   | .ptr id off,some rt=>
    (match ax s.b id with
    | some (.box c)=>(match mf rt c off,n5 tbl s r with | some v,some l=>some (v ::l) | _,_=>none)
    | _=>none)
   | _,_=>none)
def f9:Nat→List AV→List (Nat × AV)
 | _,[]=>[]
 | i,a ::r=>(i,a) ::f9 (i+1) r
def sK (res:Option (List AV)) (s:St) (val:AV) (b:List (Nat × SObj)):Prop:=
 match res with
 | some [a]=>cS ⟨[(0,a)],s.b⟩ ⟨[(0,val)],b⟩
 | some l=>(match val with | .tup rs=>if gN l rs.length then cS ⟨f9 0 l,s.b⟩ ⟨f9 0 rs,b⟩ else False | _=>False)
 | none=>False
def dn (n:Nat):Code→Bool
 | .region _ ops _=>ops.toList.all fun o=>match o.dst with | some d=>Nat.blt d n | none=>true
 | .seq a b=>dn n a && dn n b
 | .cond _ a b=>dn n a && dn n b
 | .block _ c=>dn n c
 | .loop c=>dn n c
 | .scope c=>dn n c
 | _=>true
def fwp (C:Cfg) (ann:An) (fn:Func) (args:List AV) (S:List (Nat × SObj)) (A:Ans):Prop:=
 match fn.body with
 | none=>False
 | some c=>
  match dn fn.ntmps c && mV args fn.ntmps && (an S).all cP with
  | false=>False
  | true=>j0 (IA fn c) fun keep=>ii ⟨f9 0 args,S⟩ fun i=>swp C keep ann c i fun
   | .exit _,_=>False
   | .pan v,s=>(match A.pan with | some (b,pv,u)=>b=true/\cS ⟨[(0,v)],s.b⟩ ⟨[(0,pv)],putB S u⟩ | none=>False)
   | _,s=>(match A.pan with | some (b,_,_)=>b=false | none=>True)/\sK (n5 C.tbl s fn.results.toList) s A.val (putB S A.upd)
end Go.AL
end
