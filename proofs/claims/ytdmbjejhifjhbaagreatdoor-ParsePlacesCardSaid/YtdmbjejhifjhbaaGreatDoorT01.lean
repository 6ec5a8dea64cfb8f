/- The layer: Go code as conditions, and that they are sound. No condition. -/
import Derived.KernelRfl
import Derived.Orders
set_option linter.unusedVariables false
set_option linter.unusedSimpArgs false
set_option linter.unnecessarySimpa false
set_option linter.deprecated false
set_option linter.unusedSectionVars false
set_option maxRecDepth 100000
namespace Go.AL
theorem Xr {p:Prop} (h:p:=by repeat (first | exact trivial | refine ⟨by first | rfl | trivial,?_⟩)):p:=h
theorem Xo {p:Prop} [Decidable p] (h:decide p=true):p:=of_decide_eq_true h
theorem Xd {p:Prop} [Decidable p] (h:p):decide p=true:=decide_eq_true h
theorem Xt {P:Program} {k:Nat} {f g:Func} (h:P.funcs[k]?=some f) (e:f=g:=by kernel_rfl):P.funcs[k]?=some g:=h.trans (congrArg some e)
theorem Xs {α:Type _} (a b:α):(some a=some b)=(a=b):=Option.some.injEq a b
theorem Xf {p:Prop} [Decidable p] (h:¬p):decide p=false:=decide_eq_false h
end Go.AL
section
namespace Go.AL
abbrev Str:=List UInt8
structure Shape where
 kind:Int
 pkg:Str
 name:Str
 names:List Str
 parts:List Shape
instance:Inhabited Shape:=⟨⟨0,[],[],[],[]⟩⟩
structure Item where
 kind:Int
 name:Str
 shape:Shape
instance:Inhabited Item:=⟨⟨0,[],default⟩⟩
structure Change where
 kind:Int
 name:Str
instance:Inhabited Change:=⟨⟨0,[]⟩⟩
structure Tokn where
 kind:Int
 text:Str
 pos:Int
instance:Inhabited Tokn:=⟨⟨0,[],0⟩⟩
structure Flt where
 err:Int
 pos:Int
instance:Inhabited Flt:=⟨⟨0,0⟩⟩
structure Trm where
 kind:Int
 pkg:Str
 name:Str
 n:Int
 names:List Str
 vars:List Str
 shapes:List Shape
 parts:List Trm
 pos:Int
instance:Inhabited Trm:=⟨⟨0,[],[],0,[],[],[],[],0⟩⟩
structure Vers where
 major:Int
 minor:Int
 patch:Int
 pre:Str
instance:Inhabited Vers:=⟨⟨0,0,0,[]⟩⟩
structure Bnd where
 op:Int
 v:Vers
instance:Inhabited Bnd:=⟨⟨0,default⟩⟩
structure Impt where
 name:Str
 pin:Vers
 range:List Bnd
 pos:Int
instance:Inhabited Impt:=⟨⟨[],default,[],0⟩⟩
structure Dcl where
 kind:Int
 name:Str
 shape:Shape
 term:Trm
 pos:Int
instance:Inhabited Dcl:=⟨⟨0,[],default,default,0⟩⟩
structure Modu where
 name:Str
 imports:List Impt
 decls:List Dcl
 exports:List Str
 pos:Int
instance:Inhabited Modu:=⟨⟨[],[],[],[],0⟩⟩
structure Bndg where
 pkg:Str
 name:Str
 shape:Shape
instance:Inhabited Bndg:=⟨⟨[],[],default⟩⟩
structure Envt where
 self:Str
 types:List Bndg
 values:List Bndg
 own:List Bndg
instance:Inhabited Envt:=⟨⟨[],[],[],[]⟩⟩
structure Depd where
 name:Str
 items:List Item
instance:Inhabited Depd:=⟨⟨[],[]⟩⟩
structure Vlu where
 kind:Int
 n:Int
 pkg:Str
 text:Str
 names:List Str
 parts:List Vlu
instance:Inhabited Vlu:=⟨⟨0,0,[],[],[],[]⟩⟩
structure Cel where
 name:Str
 value:Vlu
instance:Inhabited Cel:=⟨⟨[],default⟩⟩
structure Opn where
 kind:Int
 n:Int
 name:Str
 names:List Str
 tos:List Int
 pos:Int
instance:Inhabited Opn:=⟨⟨0,0,[],[],[],0⟩⟩
structure Chnk where
 args:Int
 ops:List Opn
instance:Inhabited Chnk:=⟨⟨0,[]⟩⟩
structure Usg where
 pkg:Str
 name:Str
instance:Inhabited Usg:=⟨⟨[],[]⟩⟩
structure Nam where
 pkg:Str
 name:Str
instance:Inhabited Nam:=⟨⟨[],[]⟩⟩
structure Stt where
 things:Int
 names:Int
instance:Inhabited Stt:=⟨⟨0,0⟩⟩
structure Par where
 toks:List Tokn
 pos:Int
 err:Int
 fat:Int
instance:Inhabited Par:=⟨⟨[],0,0,0⟩⟩
structure Rstt where
 known:Bool
 things:Int
 names:Int
instance:Inhabited Rstt:=⟨⟨false,0,0⟩⟩
inductive SN where
 | shape | item | change | token | fault | term | version | bound | imp | decl | modu | bind | env | dep | val | cell | op | chunk | usg | nm | stt | par | rstt
 deriving DecidableEq
inductive Ty where
 | int (k:IntKind) | bool | str | lst (t:Ty) | st (n:SN) | pt (n:SN)
 deriving DecidableEq
@[reducible] def SD:SN→Type
 | .shape=>Shape
 | .item=>Item
 | .change=>Change
 | .token=>Tokn
 | .fault=>Flt
 | .term=>Trm
 | .version=>Vers
 | .bound=>Bnd
 | .imp=>Impt
 | .decl=>Dcl
 | .modu=>Modu
 | .bind=>Bndg
 | .env=>Envt
 | .dep=>Depd
 | .val=>Vlu
 | .cell=>Cel
 | .op=>Opn
 | .chunk=>Chnk
 | .usg=>Usg
 | .nm=>Nam
 | .stt=>Stt
 | .par=>Par
 | .rstt=>Rstt
@[reducible] def den:Ty→Type
 | .int _=>Int
 | .bool=>Bool
 | .str=>Str
 | .lst t=>List (den t)
 | .st n=>SD n
 | .pt n=>Option (SD n)
def dfl:(τ:Ty)→den τ
 | .int _=>(0:Int)
 | .bool=>false
 | .str=>([]:Str)
 | .lst _=>[]
 | .pt _=>none
 | .st .shape=>(default:Shape)
 | .st .item=>(default:Item)
 | .st .change=>(default:Change)
 | .st .token=>(default:Tokn)
 | .st .fault=>(default:Flt)
 | .st .term=>(default:Trm)
 | .st .version=>(default:Vers)
 | .st .bound=>(default:Bnd)
 | .st .imp=>(default:Impt)
 | .st .decl=>(default:Dcl)
 | .st .modu=>(default:Modu)
 | .st .bind=>(default:Bndg)
 | .st .env=>(default:Envt)
 | .st .dep=>(default:Depd)
 | .st .val=>(default:Vlu)
 | .st .cell=>(default:Cel)
 | .st .op=>(default:Opn)
 | .st .chunk=>(default:Chnk)
 | .st .usg=>(default:Usg)
 | .st .nm=>(default:Nam)
 | .st .stt=>(default:Stt)
 | .st .par=>(default:Par)
 | .st .rstt=>(default:Rstt)
inductive AV where
 | undef
 | int (k:IntKind) (n:Int)
 | bool (b:Bool)
 | str (s:Str)
 | lst (τ:Ty) (xs:List (den τ)) (o:Option Nat)
 | nils
 | ptr (id off:Nat)
 | cptr (c:AV)
 | nilp
 | pt (n:SN) (x:Option (SD n))
 | st (n:SN) (x:SD n)
 | agg (cs:List AV)
 | tup (vs:List AV)
 | fn (f:Nat) (cs:List AV)
 | row (τ:Ty) (xs:List (den τ))
 | arr (id n w:Nat)
 | aptr (id i w off:Nat)
 | map (id:Nat)
 | bptr (id:Nat)
 | iface (t:Nat) (a:AV)
 | nilif
 | lstp (τ:Ty) (xs:List (den τ)) (k:Nat)
 | tptr (τ:Ty) (n k:Nat)
instance:Inhabited AV:=⟨.undef⟩
def dS (x:Shape):List AV:=.int .i64 x.kind ::(.str x.pkg ::(.str x.name ::(.lst .str x.names none ::(.lst (.st .shape) x.parts none ::[]))))
def gX (x:Item):List AV:=.int .i64 x.kind ::(.str x.name ::(dS x.shape++[]))
def fg (x:Change):List AV:=.int .i64 x.kind ::(.str x.name ::[])
def fS (x:Tokn):List AV:=.int .i64 x.kind ::(.str x.text ::(.int .i64 x.pos ::[]))
def fT (x:Flt):List AV:=.int .i64 x.err ::(.int .i64 x.pos ::[])
def fU (x:Trm):List AV:=.int .i64 x.kind ::(.str x.pkg ::(.str x.name ::(.int .i64 x.n ::(.lst .str x.names none ::(.lst .str x.vars none ::(.lst (.st .shape) x.shapes none ::(.lst (.st .term) x.parts none ::(.int .i64 x.pos ::[]))))))))
def du (x:Vers):List AV:=.int .i64 x.major ::(.int .i64 x.minor ::(.int .i64 x.patch ::(.str x.pre ::[])))
def fV (x:Bnd):List AV:=.int .i64 x.op ::(du x.v++[])
def j6 (x:Impt):List AV:=.str x.name ::(du x.pin++(.lst (.st .bound) x.range none ::(.int .i64 x.pos ::[])))
def gZ (x:Dcl):List AV:=.int .i64 x.kind ::(.str x.name ::(dS x.shape++(fU x.term++(.int .i64 x.pos ::[]))))
def hD (x:Modu):List AV:=.str x.name ::(.lst (.st .imp) x.imports none ::(.lst (.st .decl) x.decls none ::(.lst .str x.exports none ::(.int .i64 x.pos ::[]))))
def hU (x:Bndg):List AV:=.str x.pkg ::(.str x.name ::(dS x.shape++[]))
def j7 (x:Envt):List AV:=.str x.self ::(.lst (.st .bind) x.types none ::(.lst (.st .bind) x.values none ::(.lst (.st .bind) x.own none ::[])))
def j8 (x:Depd):List AV:=.str x.name ::(.lst (.st .item) x.items none ::[])
def io (x:Vlu):List AV:=.int .i64 x.kind ::(.int .i64 x.n ::(.str x.pkg ::(.str x.text ::(.lst .str x.names none ::(.lst (.st .val) x.parts none ::[])))))
def hX (x:Cel):List AV:=.str x.name ::(io x.value++[])
def l4 (x:Opn):List AV:=.int .i64 x.kind ::(.int .i64 x.n ::(.str x.name ::(.lst .str x.names none ::(.lst (.int .i64) x.tos none ::(.int .i64 x.pos ::[])))))
def fW (x:Chnk):List AV:=.int .i64 x.args ::(.lst (.st .op) x.ops none ::[])
def j9 (x:Usg):List AV:=.str x.pkg ::(.str x.name ::[])
def l5 (x:Nam):List AV:=.str x.pkg ::(.str x.name ::[])
def ja (x:Stt):List AV:=.int .i64 x.things ::(.int .i64 x.names ::[])
def jb (x:Par):List AV:=.lst (.st .token) x.toks none ::(.int .i64 x.pos ::(.int .i64 x.err ::(.int .i64 x.fat ::[])))
def hZ (x:Rstt):List AV:=.bool x.known ::(.int .i64 x.things ::(.int .i64 x.names ::[]))
def cells:(τ:Ty)→den τ→List AV
 | .int k,n=>[.int k n]
 | .bool,b=>[.bool b]
 | .str,s=>[.str s]
 | .lst t,l=>[.lst t l none]
 | .pt n,x=>[.pt n x]
 | .st .shape,x=>dS x
 | .st .item,x=>gX x
 | .st .change,x=>fg x
 | .st .token,x=>fS x
 | .st .fault,x=>fT x
 | .st .term,x=>fU x
 | .st .version,x=>du x
 | .st .bound,x=>fV x
 | .st .imp,x=>j6 x
 | .st .decl,x=>gZ x
 | .st .modu,x=>hD x
 | .st .bind,x=>hU x
 | .st .env,x=>j7 x
 | .st .dep,x=>j8 x
 | .st .val,x=>io x
 | .st .cell,x=>hX x
 | .st .op,x=>l4 x
 | .st .chunk,x=>fW x
 | .st .usg,x=>j9 x
 | .st .nm,x=>l5 x
 | .st .stt,x=>ja x
 | .st .par,x=>jb x
 | .st .rstt,x=>hZ x
def ac:Ty→Nat
 | .st .shape=>5
 | .st .item=>7
 | .st .change=>2
 | .st .token=>3
 | .st .fault=>2
 | .st .term=>9
 | .st .version=>4
 | .st .bound=>5
 | .st .imp=>7
 | .st .decl=>17
 | .st .modu=>5
 | .st .bind=>7
 | .st .env=>4
 | .st .dep=>2
 | .st .val=>6
 | .st .cell=>7
 | .st .op=>6
 | .st .chunk=>2
 | .st .usg=>2
 | .st .nm=>2
 | .st .stt=>2
 | .st .par=>4
 | .st .rstt=>3
 | _=>1
def mD (n m:SN) (x:SD n):Option (SD m):=if h:n=m then some (h ▸ x) else none
def kf (τ σ:Ty) (xs:List (den τ)):Option (List (den σ)):=if h:τ=σ then some (h ▸ xs) else none
def asInt (k:IntKind):AV→Option Int
 | .int k' n=>if k'=k then some n else none
 | _=>none
def oZ:AV→Option Bool
 | .bool b=>some b
 | _=>none
def dR:AV→Option Str
 | .str s=>some s
 | _=>none
def ew (σ:Ty):AV→Option (List (den σ))
 | .lst τ xs _=>kf τ σ xs
 | .nils=>some []
 | _=>none
def rW (n m:SN) (x:Option (SD n)):Option (Option (SD m)):=if h:n=m then some (h ▸ x) else none
def Gn (n:SN):AV→Option (Option (SD n))
 | .pt m x=>rW m n x
 | .nilp=>some none
 | .cptr (.st m x)=>rW m n (some x)
 | _=>none
def i7:List AV→Option Shape
 | [c0,c1,c2,c3,c4]=>
  match asInt .i64 c0,dR c1,dR c2,ew .str c3,ew (.st .shape) c4 with
  | some x0,some x1,some x2,some x3,some x4=>some ⟨x0,x1,x2,x3,x4⟩
  | _,_,_,_,_=>none
 | _=>none
def pw:List AV→Option Item
 | [c0,c1,c2,c3,c4,c5,c6]=>
  match asInt .i64 c0,dR c1,i7 [c2,c3,c4,c5,c6] with
  | some x0,some x1,some x2=>some ⟨x0,x1,x2⟩
  | _,_,_=>none
 | _=>none
def lX:List AV→Option Change
 | [c0,c1]=>
  match asInt .i64 c0,dR c1 with
  | some x0,some x1=>some ⟨x0,x1⟩
  | _,_=>none
 | _=>none
def nw:List AV→Option Tokn
 | [c0,c1,c2]=>
  match asInt .i64 c0,dR c1,asInt .i64 c2 with
  | some x0,some x1,some x2=>some ⟨x0,x1,x2⟩
  | _,_,_=>none
 | _=>none
def ny:List AV→Option Flt
 | [c0,c1]=>
  match asInt .i64 c0,asInt .i64 c1 with
  | some x0,some x1=>some ⟨x0,x1⟩
  | _,_=>none
 | _=>none
def mE:List AV→Option Trm
 | [c0,c1,c2,c3,c4,c5,c6,c7,c8]=>
  match asInt .i64 c0,dR c1,dR c2,asInt .i64 c3,ew .str c4,ew .str c5,ew (.st .shape) c6,ew (.st .term) c7,asInt .i64 c8 with
  | some x0,some x1,some x2,some x3,some x4,some x5,some x6,some x7,some x8=>some ⟨x0,x1,x2,x3,x4,x5,x6,x7,x8⟩
  | _,_,_,_,_,_,_,_,_=>none
 | _=>none
def gr:List AV→Option Vers
 | [c0,c1,c2,c3]=>
  match asInt .i64 c0,asInt .i64 c1,asInt .i64 c2,dR c3 with
  | some x0,some x1,some x2,some x3=>some ⟨x0,x1,x2,x3⟩
  | _,_,_,_=>none
 | _=>none
def nz:List AV→Option Bnd
 | [c0,c1,c2,c3,c4]=>
  match asInt .i64 c0,gr [c1,c2,c3,c4] with
  | some x0,some x1=>some ⟨x0,x1⟩
  | _,_=>none
 | _=>none
def sL:List AV→Option Impt
 | [c0,c1,c2,c3,c4,c5,c6]=>
  match dR c0,gr [c1,c2,c3,c4],ew (.st .bound) c5,asInt .i64 c6 with
  | some x0,some x1,some x5,some x6=>some ⟨x0,x1,x5,x6⟩
  | _,_,_,_=>none
 | _=>none
def px:List AV→Option Dcl
 | [c0,c1,c2,c3,c4,c5,c6,c7,c8,c9,c10,c11,c12,c13,c14,c15,c16]=>
  match asInt .i64 c0,dR c1,i7 [c2,c3,c4,c5,c6],mE [c7,c8,c9,c10,c11,c12,c13,c14,c15],asInt .i64 c16 with
  | some x0,some x1,some x2,some x7,some x16=>some ⟨x0,x1,x2,x7,x16⟩
  | _,_,_,_,_=>none
 | _=>none
def py:List AV→Option Modu
 | [c0,c1,c2,c3,c4]=>
  match dR c0,ew (.st .imp) c1,ew (.st .decl) c2,ew .str c3,asInt .i64 c4 with
  | some x0,some x1,some x2,some x3,some x4=>some ⟨x0,x1,x2,x3,x4⟩
  | _,_,_,_,_=>none
 | _=>none
def pz:List AV→Option Bndg
 | [c0,c1,c2,c3,c4,c5,c6]=>
  match dR c0,dR c1,i7 [c2,c3,c4,c5,c6] with
  | some x0,some x1,some x2=>some ⟨x0,x1,x2⟩
  | _,_,_=>none
 | _=>none
def sM:List AV→Option Envt
 | [c0,c1,c2,c3]=>
  match dR c0,ew (.st .bind) c1,ew (.st .bind) c2,ew (.st .bind) c3 with
  | some x0,some x1,some x2,some x3=>some ⟨x0,x1,x2,x3⟩
  | _,_,_,_=>none
 | _=>none
def sO:List AV→Option Depd
 | [c0,c1]=>
  match dR c0,ew (.st .item) c1 with
  | some x0,some x1=>some ⟨x0,x1⟩
  | _,_=>none
 | _=>none
def p7:List AV→Option Vlu
 | [c0,c1,c2,c3,c4,c5]=>
  match asInt .i64 c0,asInt .i64 c1,dR c2,dR c3,ew .str c4,ew (.st .val) c5 with
  | some x0,some x1,some x2,some x3,some x4,some x5=>some ⟨x0,x1,x2,x3,x4,x5⟩
  | _,_,_,_,_,_=>none
 | _=>none
def pA:List AV→Option Cel
 | [c0,c1,c2,c3,c4,c5,c6]=>
  match dR c0,p7 [c1,c2,c3,c4,c5,c6] with
  | some x0,some x1=>some ⟨x0,x1⟩
  | _,_=>none
 | _=>none
def xb:List AV→Option Opn
 | [c0,c1,c2,c3,c4,c5]=>
  match asInt .i64 c0,asInt .i64 c1,dR c2,ew .str c3,ew (.int .i64) c4,asInt .i64 c5 with
  | some x0,some x1,some x2,some x3,some x4,some x5=>some ⟨x0,x1,x2,x3,x4,x5⟩
  | _,_,_,_,_,_=>none
 | _=>none
def nA:List AV→Option Chnk
 | [c0,c1]=>
  match asInt .i64 c0,ew (.st .op) c1 with
  | some x0,some x1=>some ⟨x0,x1⟩
  | _,_=>none
 | _=>none
def sP:List AV→Option Usg
 | [c0,c1]=>
  match dR c0,dR c1 with
  | some x0,some x1=>some ⟨x0,x1⟩
  | _,_=>none
 | _=>none
def xc:List AV→Option Nam
 | [c0,c1]=>
  match dR c0,dR c1 with
  | some x0,some x1=>some ⟨x0,x1⟩
  | _,_=>none
 | _=>none
def sQ:List AV→Option Stt
 | [c0,c1]=>
  match asInt .i64 c0,asInt .i64 c1 with
  | some x0,some x1=>some ⟨x0,x1⟩
  | _,_=>none
 | _=>none
def sR:List AV→Option Par
 | [c0,c1,c2,c3]=>
  match ew (.st .token) c0,asInt .i64 c1,asInt .i64 c2,asInt .i64 c3 with
  | some x0,some x1,some x2,some x3=>some ⟨x0,x1,x2,x3⟩
  | _,_,_,_=>none
 | _=>none
def pB:List AV→Option Rstt
 | [c0,c1,c2]=>
  match oZ c0,asInt .i64 c1,asInt .i64 c2 with
  | some x0,some x1,some x2=>some ⟨x0,x1,x2⟩
  | _,_,_=>none
 | _=>none
def sS:(τ:Ty)→List AV→Option (den τ)
 | .int k,[a]=>asInt k a
 | .bool,[a]=>oZ a
 | .str,[a]=>dR a
 | .lst t,[a]=>ew t a
 | .pt n,[a]=>Gn n a
 | .st .shape,cs=>i7 cs
 | .st .item,cs=>pw cs
 | .st .change,cs=>lX cs
 | .st .token,cs=>nw cs
 | .st .fault,cs=>ny cs
 | .st .term,cs=>mE cs
 | .st .version,cs=>gr cs
 | .st .bound,cs=>nz cs
 | .st .imp,cs=>sL cs
 | .st .decl,cs=>px cs
 | .st .modu,cs=>py cs
 | .st .bind,cs=>pz cs
 | .st .env,cs=>sM cs
 | .st .dep,cs=>sO cs
 | .st .val,cs=>p7 cs
 | .st .cell,cs=>pA cs
 | .st .op,cs=>xb cs
 | .st .chunk,cs=>nA cs
 | .st .usg,cs=>sP cs
 | .st .nm,cs=>xc cs
 | .st .stt,cs=>sQ cs
 | .st .par,cs=>sR cs
 | .st .rstt,cs=>pB cs
 | _,_=>none
def EY:Ty→Bool
 | .st _=>true
 | _=>false
def inj:(τ:Ty)→den τ→AV
 | .int k,n=>.int k n
 | .bool,b=>.bool b
 | .str,s=>.str s
 | .lst t,l=>.lst t l none
 | .pt n,x=>.pt n x
 | .st n,x=>.st n x
def bg (τ:Ty) (xs:List (den τ)):List AV:=xs.flatMap (cells τ)
def aa:AV→List AV
 | .agg cs=>cs
 | .st n x=>cells (.st n) x
 | .row τ xs=>bg τ xs
 | a=>[a]
def arg:(τ:Ty)→AV→Option (den τ)
 | .st m,.st n x=>mD n m x
 | .st m,.agg cs=>sS (.st m) cs
 | .st _,_=>none
 | τ,a=>sS τ [a]
def kg:(n:SN)→Nat→SD n→Option AV
 | .item,2,x=>some (.st .shape (Item.shape x))
 | .bound,1,x=>some (.st .version (Bnd.v x))
 | .imp,1,x=>some (.st .version (Impt.pin x))
 | .decl,2,x=>some (.st .shape (Dcl.shape x))
 | .decl,7,x=>some (.st .term (Dcl.term x))
 | .bind,2,x=>some (.st .shape (Bndg.shape x))
 | .cell,1,x=>some (.st .val (Cel.value x))
 | _,_,_=>none
def Cx:(n:SN)→Nat→SD n→AV→Option AV
 | .item,2,x,.st .shape y=>some (.st .item ({(show Item from x) with shape:=y}:Item))
 | .bound,1,x,.st .version y=>some (.st .bound ({(show Bnd from x) with v:=y}:Bnd))
 | .imp,1,x,.st .version y=>some (.st .imp ({(show Impt from x) with pin:=y}:Impt))
 | .decl,2,x,.st .shape y=>some (.st .decl ({(show Dcl from x) with shape:=y}:Dcl))
 | .decl,7,x,.st .term y=>some (.st .decl ({(show Dcl from x) with term:=y}:Dcl))
 | .bind,2,x,.st .shape y=>some (.st .bind ({(show Bndg from x) with shape:=y}:Bndg))
 | .cell,1,x,.st .val y=>some (.st .cell ({(show Cel from x) with value:=y}:Cel))
 | _,_,_,_=>none
inductive SObj where
 | box (c:AV)
 | tail (τ:Ty) (n:Nat)
 | map (κ τ:Ty) (m:List (den κ × den τ))
 | bld (t u:Nat) (l:Str)
 | tailp (τ:Ty) (n:Nat) (x:den τ)
structure St where
 t:List (Nat × AV)
 b:List (Nat × SObj)
def bD:List (Nat × AV)→Nat→AV
 | [],_=>.undef
 | (j,v) ::r,i=>if j ==i then v else bD r i
def pC:List (Nat × AV)→Nat→AV→List (Nat × AV)
 | [],i,v=>[(i,v)]
 | (j,u) ::r,i,v=>if j ==i then (i,v) ::r else (j,u) ::pC r i v
def ax:List (Nat × SObj)→Nat→Option SObj
 | [],_=>none
 | (j,v) ::r,i=>if j ==i then some v else ax r i
def nB:List (Nat × SObj)→Nat→SObj→List (Nat × SObj)
 | [],i,v=>[(i,v)]
 | (j,u) ::r,i,v=>if j ==i then (i,v) ::r else (j,u) ::nB r i v
inductive TI where
 | int (k:IntKind) | bool | str | slice (e:Nat) | ptr (e:Nat) | strct (e:Bool) (fs:List (Nat × Nat)) | map (k e:Nat) | iface | arr (e n:Nat) | other
structure TR where
 ti:TI
 size:Nat
 bytes:Nat
 zero:List AV
 ty:Option Ty
structure Ans where
 ob:Option Prop
 pan:Option (Bool × AV × List (Nat × SObj))
 val:AV
 upd:List (Nat × SObj)
def Ans.ret (v:AV):Ans:=⟨none,none,v,[]⟩
structure Cfg where
 tbl:List (Nat × TR)
 spec:Nat→List AV→List (Nat × SObj)→Option Ans
 keeps:Nat→Bool
 lends:Nat→List (Option Nat)
 pend:Nat→Bool:=fun _=>false
 rows:Nat→Bool:=fun _=>false
 same:Nat→Bool:=fun _=>false
def aT:List (Nat × TR)→Nat→Option TR
 | [],_=>none
 | (j,r) ::l,t=>if j ==t then some r else aT l t
def TR.isAgg (r:TR):Bool:=
 match r.ti with
 | .strct _ _=>true
 | .arr _ _=>true
 | _=>false
structure Eff where
 ob:Option Prop
 val:AV
 upd:List (Nat × SObj)
def Eff.pure (v:AV):Eff:=⟨none,v,[]⟩
def Eff.asks (e:Eff):Prop:=match e.ob with | none=>True | some p=>p
def inR (k:IntKind) (n:Int):Prop:=k.min<=n/\n<=k.max
def EZ:IntKind→Nat
 | .i8=>127 | .i16=>32767 | .i32=>2147483647 | .i64=>9223372036854775807
 | .u8=>255 | .u16=>65535 | .u32=>4294967295 | .u64=>18446744073709551615
def zA:IntKind→Bool
 | .i8 | .i16 | .i32 | .i64=>true
 | _=>false
def okC (k:IntKind):Int→Bool
 | .ofNat m=>Nat.ble m (EZ k)
 | .negSucc m=>if zA k then Nat.ble m (EZ k) else false
def gu {α:Type}:List α→Nat→Bool
 | [],0=>true
 | _ ::r,n+1=>gu r n
 | _,_=>false
def mF {α:Type}:List α→Nat→Bool
 | [],_=>true
 | _ ::r,n+1=>mF r n
 | _ ::_,0=>false
def nth {α:Type}:List α→Nat→Option α
 | [],_=>none
 | a ::_,0=>some a
 | _ ::r,n+1=>nth r n
def oi:List AV→Nat→Option (List AV)
 | _,0=>some []
 | a ::r,n+1=>(match oi r n with | some l=>some (a ::l) | none=>none)
 | [],_+1=>none
def lH:List AV→Nat→Option (List AV)
 | l,0=>some l
 | _ ::r,n+1=>lH r n
 | [],_+1=>none
def ct:Value→AV
 | .int k n=>if okC k n then .int k n else .undef
 | .bool b=>.bool b
 | .string s=>if mF s.data.toList 100000 then .str s.data.toList else .undef
 | .slice none 0 0=>.nils
 | .pointer none=>.nilp
 | .nilIface=>.nilif
 | _=>.undef
def mG:Value→AV
 | .agg cs=>.agg (cs.toList.map ct)
 | v=>ct v
def opd (T:Nat→AV):Operand→AV
 | .tmp t=>T t
 | .const v=>mG v
 | .func f=>.fn f []
 | .global _=>.undef
def xe (op:BinOp) (k:IntKind) (a b:Int):Option Eff:=
 match op with
 | .add=>some ⟨some (inR k (a+b)),.int k (a+b),[]⟩
 | .sub=>some ⟨some (inR k (a - b)),.int k (a - b),[]⟩
 | .mul=>some ⟨some (inR k (a *b)),.int k (a *b),[]⟩
 | .quo=>some ⟨some (b≠0/\inR k (a.tdiv b)),.int k (a.tdiv b),[]⟩
 | .rem=>some ⟨some (b≠0/\inR k (a.tmod b)),.int k (a.tmod b),[]⟩
 | .eql=>some (.pure (.bool (decide (a=b))))
 | .neq=>some (.pure (.bool (!decide (a=b))))
 | .lss=>some (.pure (.bool (decide (a < b))))
 | .leq=>some (.pure (.bool (decide (a<=b))))
 | .gtr=>some (.pure (.bool (decide (b < a))))
 | .geq=>some (.pure (.bool (decide (b<=a))))
 | _=>none
def xf (op:BinOp) (a b:Str):Option Eff:=
 match op with
 | .add=>some ⟨some (a.length+b.length<=9223372036854775807),.str (a++b),[]⟩
 | .eql=>some (.pure (.bool (decide (a=b))))
 | .neq=>some (.pure (.bool (!decide (a=b))))
 | .lss=>some (.pure (.bool (Op.bytesLess a b)))
 | .leq=>some (.pure (.bool (Op.bytesLess a b || decide (a=b))))
 | .gtr=>some (.pure (.bool (!(Op.bytesLess a b || decide (a=b)))))
 | .geq=>some (.pure (.bool (!Op.bytesLess a b)))
 | _=>none
def sT (op:BinOp) (a b:Bool):Option Eff:=
 match op with
 | .eql=>some (.pure (.bool (a ==b)))
 | .neq=>some (.pure (.bool (!(a ==b))))
 | _=>none
def sub (cs:List AV) (off n:Nat):Option (List AV):=
 match lH cs off with
 | some cs=>oi cs n
 | none=>none
def dU (r:TR) (cs:List AV):Option AV:=
 if r.isAgg then some (.agg cs) else (match cs with | [c]=>some c | _=>none)
def kh:List AV→List AV→Option (List AV)
 | cs,[]=>some cs
 | _ ::cs,v ::vs=>(match kh cs vs with | some l=>some (v ::l) | none=>none)
 | [],_ ::_=>none
def splice:List AV→Nat→List AV→Option (List AV)
 | cs,0,vs=>kh cs vs
 | c ::cs,n+1,vs=>(match splice cs n vs with | some l=>some (c ::l) | none=>none)
 | [],_+1,_=>none
def lF:AV→Bool
 | .undef | .agg _ | .tup _ | .st _ _ | .row _ _=>false
 | _=>true
def lI (r:TR) (c:AV) (off:Nat):Option AV:=
 match c,off,r.ty with
 | .st n x,0,some (.st m)=>
  if n=m then some (.st n x) else (match sub (aa (.st n x)) 0 r.size with | some cs=>dU r cs | none=>none)
 | .st n x,o+1,some (.st m)=>
  (match kg n (o+1) x with
  | some (.st m' y)=>if m'=m then some (.st m' y) else none
  | _=>(match sub (aa (.st n x)) (o+1) r.size with | some cs=>dU r cs | none=>none))
 | c,off,_=>(match sub (aa c) off r.size with | some cs=>dU r cs | none=>none)
def sU (r:TR) (c:AV) (off:Nat) (v:AV):Option AV:=
 if (aa v).all lF && gu (aa v) r.size then
  (match off with
  | 0=>if gu (aa c) r.size then some v else (match splice (aa c) 0 (aa v) with | some cs=>some (.agg cs) | none=>none)
  | o+1=>(match splice (aa c) (o+1) (aa v) with | some cs=>some (.agg cs) | none=>none))
 else none
def uG (fs:List (Nat × Nat)) (size:Nat→Option Nat) (zero:List AV):List (Nat × AV)→Option (List AV)
 | []=>some zero
 | (i,v) ::r=>
  match nth fs i with
  | some (off,t)=>
   (match size t with
   | some n=>if (aa v).all lF && gu (aa v) n then (match splice zero off (aa v) with | some z=>uG fs size z r | none=>none) else none
   | none=>none)
  | none=>none
def pD (τ:Ty) (i:Nat):List (Nat × AV)→Option (List (den τ))
 | []=>some []
 | (j,v) ::r=>
  if j ==i then
   (match arg τ v,pD τ (i+1) r with
    | some x,some l=>some (x ::l)
    | _,_=>none)
  else none
def p8 (r:TR) (f:Nat):Option (Nat × Nat):=
 match r.ti with
 | .strct _ fs=>nth fs f
 | _=>none
def bnd (T:Nat→AV):Option Operand→Option (Option Int)
 | none=>some none
 | some x=>match opd T x with
  | .int .i64 n=>some (some n)
  | _=>none
def aB (s:Str):List Int:=s.map fun b=>(b.toNat:Int)
def p9 (C:Cfg) (t:Nat) (dst:Nat) (x y:AV) (look:Nat→Option SObj):Option Eff:=
 match aT C.tbl t with
 | some ⟨.slice e,_,_,_,_⟩=>
  (match aT C.tbl e with
  | some re=>
   (match x,y with
   | .lst τ xs (some k),.lst σ ys _=>
    (match kf σ τ ys,look k with
    | some [z],some (.tail τ' n)=>
     if τ'=τ/\re.ty=some τ then
      some ⟨some (xs.length=n/\(xs.length+1) *re.bytes<=140737488355328),.lstp τ xs k,[(k,.tailp τ xs.length z)]⟩
     else none
    | _,_=>none)
   | .nils,.lst σ [z] _=>
    (match look dst with
    | none=>if re.ty=some σ then some ⟨some (1 *re.bytes<=140737488355328),.lstp σ [] dst,[(dst,.tailp σ 0 z)]⟩ else none
    | _=>none)
   | _,_=>none)
  | none=>none)
 | _=>none
def sV (C:Cfg) (t:Nat) (dst:Nat) (x y:AV) (look:Nat→Option SObj):Option Eff:=
 match aT C.tbl t with
 | some ⟨.slice e,_,_,_,_⟩=>
  (match aT C.tbl e with
  | some re=>
   (match x,y with
   | .nils,.nils=>some (.pure .nils)
   | .lst τ xs o,.nils=>some (.pure (.lst τ xs o))
   | .lst τ xs (some k),.lst σ ys _=>
    (match kf σ τ ys,look k with
    | some ys,some (.tail τ' n)=>
     if τ'=τ/\re.ty=some τ then
      some ⟨some (xs.length=n/\(xs.length+ys.length) *re.bytes<=140737488355328),.lst τ (xs++ys) (some k),[(k,.tail τ (xs++ys).length)]⟩
     else none
    | _,_=>none)
   | .nils,.lst σ ys _=>
    (match look dst with
    | none=>if re.ty=some σ then some ⟨some (ys.length *re.bytes<=140737488355328),.lst σ ys (some dst),[(dst,.tail σ ys.length)]⟩ else none
    | _=>none)
   | _,_=>none)
  | none=>none)
 | _=>none
def jy (xs:List Int):Str:=xs.map fun n=>UInt8.ofNat n.toNat
def pa (C:Cfg) (t t':Nat) (x:AV) (s:Str) (look:Nat→Option SObj):Option Eff:=
 match aT C.tbl t,aT C.tbl t' with
 | some ⟨.slice e,_,_,_,_⟩,some ⟨.str,_,_,_,_⟩=>
  (match aT C.tbl e with
  | some ⟨.int .u8,_,bytes,_,some (.int .u8)⟩=>
   (match x with
   | .lst (.int .u8) xs (some k)=>
    (match look k with
    | some (.tail (.int .u8) n)=>
     some ⟨some (xs.length=n/\(xs.length+s.length) *bytes<=140737488355328),.lst (.int .u8) (xs++aB s) (some k),[(k,.tail (.int .u8) (xs++aB s).length)]⟩
    | _=>none)
   | _=>none)
  | _=>none)
 | _,_=>none
def G9 (C:Cfg) (s d:Nat) (x:AV):Option Eff:=
 match aT C.tbl s,aT C.tbl d,x with
 | some ⟨.slice e,_,_,_,_⟩,some ⟨.str,_,_,_,_⟩,.lst (.int .u8) xs _=>
  (match aT C.tbl e with
  | some ⟨.int .u8,_,_,_,some (.int .u8)⟩=>some (.pure (.str (jy xs)))
  | _=>none)
 | some ⟨.str,_,_,_,_⟩,some ⟨.slice e,_,_,_,_⟩,.str s=>
  (match aT C.tbl e with
  | some ⟨.int .u8,_,_,_,some (.int .u8)⟩=>some (.pure (.lst (.int .u8) (aB s) none))
  | _=>none)
 | _,_,_=>none
def ids:AV→List Nat
 | .ptr i _=>[i]
 | .lst _ _ (some i)=>[i]
 | .agg cs=>idsL cs
 | .tup cs=>idsL cs
 | .fn _ cs=>idsL cs
 | .cptr c=>ids c
 | .arr i _ _=>[i]
 | .aptr i _ _ _=>[i]
 | .map i=>[i]
 | .bptr i=>[i]
 | .iface _ a=>ids a
 | .lstp _ _ k=>[k]
 | .tptr _ _ k=>[k]
 | _=>[]
where idsL:List AV→List Nat
 | []=>[]
 | a ::r=>ids a++idsL r
def xg:SObj→List Nat
 | .box c=>ids c
 | _=>[]
mutual
def mapV (fp:Nat→Nat→Option (Nat × Nat)) (fi ft:Nat→Option Nat):AV→Option AV
 | .ptr i o=>(match fp i o with | some (j,p)=>some (.ptr j p) | none=>none)
 | .lst τ xs o=>(match o with | some k=>some (.lst τ xs (ft k)) | none=>some (.lst τ xs none))
 | .cptr c=>(match mapV fp fi ft c with | some c=>some (.cptr c) | none=>none)
 | .agg cs=>(match mapVs fp fi ft cs with | some cs=>some (.agg cs) | none=>none)
 | .tup cs=>(match mapVs fp fi ft cs with | some cs=>some (.tup cs) | none=>none)
 | .fn f cs=>(match mapVs fp fi ft cs with | some cs=>some (.fn f cs) | none=>none)
 | .arr i n w=>(match fi i with | some j=>some (.arr j n w) | none=>none)
 | .aptr i n w o=>(match fi i with | some j=>some (.aptr j n w o) | none=>none)
 | .map i=>(match fi i with | some j=>some (.map j) | none=>none)
 | .bptr i=>(match fi i with | some j=>some (.bptr j) | none=>none)
 | .iface t a=>(match mapV fp fi ft a with | some a=>some (.iface t a) | none=>none)
 | .lstp _ _ _=>none
 | .tptr _ _ _=>none
 | a=>some a
def mapVs (fp:Nat→Nat→Option (Nat × Nat)) (fi ft:Nat→Option Nat):List AV→Option (List AV)
 | []=>some []
 | a ::r=>(match mapV fp fi ft a,mapVs fp fi ft r with | some a,some r=>some (a ::r) | _,_=>none)
end
abbrev dQ:=Nat × Option (Nat × Nat)
def ka (look:Nat→Option SObj):Nat→List Nat→List Nat→List Nat
 | 0,_,acc=>acc
 | _+1,[],acc=>acc
 | n+1,i ::r,acc=>
  if acc.contains i then ka look n r acc
  else ka look n (r++(match look i with | some o=>xg o | none=>[])) (acc++[i])
def idx:List dQ→Nat→Nat→Option (Nat × Option (Nat × Nat))
 | [],_,_=>none
 | (j,r) ::l,i,k=>if j ==i then some (k,r) else idx l i (k+1)
def cD (i:Nat):Bool:=Nat.ble 900 i && Nat.blt i 1000
def toP (L:List dQ) (i o:Nat):Option (Nat × Nat):=
 match idx L i 900 with
 | some (k,none)=>some (k,o)
 | some (k,some (off,len))=>if Nat.ble off o && Nat.blt o (off+len) then some (k,o - off) else none
 | none=>none
def toI (L:List dQ) (i:Nat):Option Nat:=
 match idx L i 900 with
 | some (k,none)=>some k
 | _=>none
def nid (d k:Nat):Nat:=(k+1) *1000+d
def bj (L:List dQ) (k:Nat):Option dQ:=if Nat.ble 900 k then nth L (k - 900) else none
def oj (L:List dQ) (d k o:Nat):Option (Nat × Nat):=
 match bj L k with
 | some (i,none)=>some (i,o)
 | some (i,some (off,_))=>some (i,off+o)
 | none=>some (nid d k,o)
def gM (L:List dQ) (d k:Nat):Option Nat:=
 match bj L k with
 | some (i,none)=>some i
 | some (_,some _)=>none
 | none=>some (nid d k)
def Cy (c:AV) (off len:Nat):Option AV:=match sub (aa c) off len with | some cs=>some (.agg cs) | none=>none
def Cz (c:AV):Option (Nat × Nat)→Option AV
 | none=>some c
 | some (off,len)=>
  match c with
  | .st n x=>
   (match kg n off x with
   | some (.st m y)=>if ac (.st m)=len then some (.st m y) else Cy (.st n x) off len
   | _=>Cy (.st n x) off len)
  | c=>Cy c off len
def F0 (c:AV) (off:Nat) (d:AV):Option AV:=match splice (aa c) off (aa d) with | some cs=>some (.agg cs) | none=>none
def F1 (c:AV) (r:Option (Nat × Nat)) (d:AV):Option AV:=
 match r with
 | none=>some d
 | some (off,len)=>
  if gu (aa d) len then
   (match c with
   | .st n x=>(match Cx n off x d with | some a=>some a | none=>F0 (.st n x) off d)
   | c=>F0 c off d)
  else none
def fP (L:List dQ) (r:Option (Nat × Nat)):SObj→Option SObj
 | .box c=>
  (match Cz c r with
  | some c=>(match mapV (toP L) (toI L) (toI L) c with | some c=>some (.box c) | none=>none)
  | none=>none)
 | .tailp _ _ _=>none
 | o=>(match r with | none=>some o | some _=>none)
def mH (look:Nat→Option SObj) (L:List dQ):List dQ→Nat→Option (List (Nat × SObj))
 | [],_=>some []
 | (i,r) ::l,k=>
  match look i with
  | some o=>(match fP L r o,mH look L l (k+1) with | some o,some l=>some ((k,o) ::l) | _,_=>none)
  | none=>none
def ip (L:List dQ) (d:Nat) (r:Option (Nat × Nat)) (old:Option SObj):SObj→Option SObj
 | .box c=>
  (match mapV (oj L d) (gM L d) (gM L d) c with
  | some c=>(match old with | some (.box b)=>(match F1 b r c with | some c=>some (.box c) | none=>none) | none=>some (.box c) | _=>none)
  | none=>none)
 | .tailp _ _ _=>none
 | o=>(match r with | none=>some o | some _=>none)
def kb (look:Nat→Option SObj) (L:List dQ) (d:Nat):List (Nat × SObj)→Option (List (Nat × SObj))
 | []=>some []
 | (k,o) ::u=>
  match bj L k with
  | some (i,r)=>
   (match look i with
   | some old=>(match ip L d r (some old) o,kb look L d u with | some o,some u=>some ((i,o) ::u) | _,_=>none)
   | none=>none)
  | none=>
   (match look (nid d k) with
   | none=>(match ip L d none none o,kb look L d u with | some o,some u=>some ((nid d k,o) ::u) | _,_=>none)
   | some _=>none)
def fw (L:List dQ) (d:Nat) (u:List (Nat × SObj)):List Nat:=
 u.filterMap fun x=>match bj L x.1 with | some _=>none | none=>some (nid d x.1)
def gN (S u:List (Nat × SObj)):List (Nat × SObj):=u++S.filter fun x=>!(u.map (·.1)).contains x.1
def xh (i:Nat):List AV→List (Option Nat)→Option (Nat × Nat)
 | .ptr j o ::r,n ::ns=>if j ==i then (match n with | some n=>some (o,n) | none=>none) else xh i r ns
 | _ ::r,_ ::ns=>xh i r ns
 | _,_=>none
def zB (look:Nat→Option SObj) (i:Nat):Bool:=match look i with | some (.box _)=>true | _=>false
structure CallR where
 foot:List Nat
 eff:Eff
 pan:Option (Bool × AV × List (Nat × SObj))
def bX:List Nat→Bool
 | []=>true
 | a ::r=>!r.contains a && bX r
def fX (C:Cfg) (f:Nat) (args:List AV) (look:Nat→Option SObj):List dQ:=
 (ka look 64 (ids.idsL args) []).map fun i=>(i,if zB look i then xh i args (C.lends f) else none)
def zC (look:Nat→Option SObj) (L:List dQ) (S:List (Nat × SObj)) (d:Nat) (A:Ans):Option CallR:=
 match mapV (oj L d) (gM L d) (gM L d) A.val,kb look L d (gN S A.upd),bX (A.upd.map (·.1)) with
 | some v,some u,true=>
  (match A.pan with
  | none=>some ⟨fw L d A.upd,⟨A.ob,v,u⟩,none⟩
  | some (b,pv,pu)=>
   (match mapV (oj L d) (gM L d) (gM L d) pv,kb look L d (gN S pu),bX (pu.map (·.1)) with
   | some pv,some pu',true=>some ⟨fw L d A.upd++fw L d pu,⟨A.ob,v,u⟩,some (b,pv,pu')⟩
   | _,_,_=>none))
 | _,_,_=>none
def jz (keeps:Bool) (args:List AV):Option (List AV):=
 match keeps with
 | true=>some args
 | false=>mapVs (fun i o=>some (i,o)) some (fun _=>none) args
def CA (C:Cfg) (d:Nat) (f:Nat) (args:List AV) (look:Nat→Option SObj) (L:List dQ):Option CallR:=
 match bX (L.map (·.1)) && Nat.blt d 1000 && Nat.ble L.length 100 with
 | true=>
  (match mapVs (toP L) (toI L) (toI L) args,mH look L L 900 with
  | some as,some S=>(match C.spec f as S with | some A=>zC look L S d A | none=>none)
  | _,_=>none)
 | false=>none
def pE (C:Cfg) (d:Nat) (f:Nat) (args:List AV) (look:Nat→Option SObj):Option CallR:=
 match jz (C.keeps f) args with
 | none=>none
 | some args=>CA C d f args look (fX C f args look)
def dw (T:Nat→AV) (c:Call):Option (Nat × List AV):=
 match c.callee with
 | .value (.func f)=>some (f,c.args.toList.map (opd T))
 | .value (.tmp t)=>(match T t with | .fn f caps=>some (f,c.args.toList.map (opd T)++caps) | _=>none)
 | _=>none
def fY (C:Cfg) (o:Oper) (T:Nat→AV) (look:Nat→Option SObj):Option CallR:=
 match o.op,o.dst with
 | .call c,some d=>(match dw T c with | some (f,args)=>pE C d f args look | none=>none)
 | _,_=>none
def iK (look:Nat→Option SObj):List (Nat × SObj)→Prop
 | []=>True
 | (i,o) ::r=>(match look i with | some o'=>o'=o/\iK look r | none=>iK look r)
def uH (look:Nat→Option SObj):List (Nat × SObj)→List (Nat × SObj)
 | []=>[]
 | (i,o) ::r=>(match look i with | some _=>uH look r | none=>(i,o) ::uH look r)
def fx (b:Bool) (look:Nat→Option SObj) (e:Eff):Eff:=
 match b with
 | false=>e
 | true=>⟨some (e.asks/\iK look e.upd),e.val,uH look e.upd⟩
def CB (b:Bool) (u:List (Nat × SObj)):List Nat:=match b with | true=>u.map (·.1) | false=>[]
def ki (C:Cfg) (o:Oper):Bool:=match o.dst with | some d=>C.same d | none=>false
def aX (C:Cfg) (o:Oper) (T:Nat→AV) (look:Nat→Option SObj):List Nat:=
 match o.op with
 | .alloc _ | .box .. | .buildSlice .. | .makeSlice .. | .makeMap ..=>o.dst.toList
 | .load _ a | .store _ a _=>(match opd T a with | .ptr id _=>[id] | .aptr id _ _ _=>[id] | .tptr _ _ k=>[k] | _=>[])
 | .lookup _ x _ _=>(match opd T x with | .map id=>[id] | _=>[])
 | .mapUpdate _ x _ _ | .insert _ x _ _=>(match opd T x with | .map id=>[id] | _=>[])
 | .call {callee:=.builtin .append,args,..}=>
  (match args.toList with
  | [x,_]=>(match opd T x with | .lst _ _ (some k)=>[k] | .nils=>o.dst.toList | _=>[])
  | _=>[])
 | .call {callee:=.builtin .len,args,..}=>
  (match args.toList with
  | [x]=>(match opd T x with | .map id=>[id] | _=>[])
  | _=>[])
 | .call c=>
  (match dw T c with
  | some (f,args)=>
   (match jz (C.keeps f) args with
   | some args=>(fX C f args look).map (·.1)++(match fY C o T look with | some r=>r.foot++CB (ki C o) r.eff.upd | none=>[])
   | none=>[])
  | none=>[])
 | _=>[]
def dV (C:Cfg) (o:Oper) (T:Nat→AV) (look:Nat→Option SObj):Option (Bool × AV × List (Nat × SObj)):=
 match o.op with
 | .panic x=>some (true,opd T x,[])
 | .call _=>(match fY C o T look with | some r=>r.pan | none=>none)
 | _=>none
def fy {K V:Type} [DecidableEq K]:List (K × V)→K→Option V
 | [],_=>none
 | (a,v) ::r,k=>if k=a then some v else fy r k
def lY {K V:Type} [DecidableEq K]:List (K × V)→K→V→List (K × V)
 | [],k,v=>[(k,v)]
 | (a,u) ::r,k,v=>if k=a then (k,v) ::r else (a,u) ::lY r k v
def nC (κ τ:Ty) (m:List (den κ × den τ)) (k:AV):Option (Option (den τ)):=
 match κ,m,k with
 | .str,m,.str k=>some (fy (K:=Str) m k)
 | .int j,m,.int j' k=>if j=j' then some (fy (K:=Int) m k) else none
 | _,_,_=>none
def kj (κ τ:Ty) (m:List (den κ × den τ)) (k:AV) (v:den τ):Option (List (den κ × den τ)):=
 match κ,m,k with
 | .str,m,.str k=>some (lY (K:=Str) m k v)
 | .int j,m,.int j' k=>if j=j' then some (lY (K:=Int) m k v) else none
 | _,_,_=>none
def GU (r:TR) (n:SN):Bool:=
 match r.ty with
 | some (.st m)=>decide (n=m)
 | _=>false
def mI:AV→Option (List AV)
 | .agg cs=>some cs
 | .st n x=>some (cells (.st n) x)
 | _=>none
def xi:TI→AV→AV→Option Bool
 | .int _,.int j a,.int k b=>if j=k then some (decide (a=b)) else none
 | .bool,.bool a,.bool b=>some (a ==b)
 | .str,.str a,.str b=>some (decide (a=b))
 | _,_,_=>none
def CC (C:Cfg):List (Nat × Nat)→List AV→List AV→Option Bool
 | [],_,_=>some true
 | (off,t) ::r,cs,ds=>
  match aT C.tbl t,nth cs off,nth ds off with
  | some rt,some c,some d=>(match xi rt.ti c d,CC C r cs ds with | some b,some b'=>some (b && b') | _,_=>none)
  | _,_,_=>none
def xj (C:Cfg) (op:BinOp) (t:Nat) (cs ds:List AV):Option Eff:=
 match aT C.tbl t with
 | some ⟨.strct true fs,_,_,_,_⟩=>
  (match CC C fs cs ds with
  | some b=>(match op with | .eql=>some (.pure (.bool b)) | .neq=>some (.pure (.bool (!b))) | _=>none)
  | none=>none)
 | _=>none
def zD (r:TR) (τ:Ty) (xs:List (den τ)) (i w off:Nat):Option Eff:=
 if w=ac τ then
  (match lI r (inj τ (xs.getD i (dfl τ))) off with | some v=>some ⟨some (i < xs.length),v,[]⟩ | none=>none)
 else none
def pF (r:TR) (id:Nat) (τ:Ty) (xs:List (den τ)) (i w off:Nat) (v:AV):Option Eff:=
 if w=ac τ then
  (match sU r (inj τ (xs.getD i (dfl τ))) off v with
  | some c=>(match arg τ c with | some x=>some ⟨some (i < xs.length),.undef,[(id,.box (.row τ (xs.set i x)))]⟩ | none=>none)
  | none=>none)
 else none
def mJ:TI→Ty→Bool
 | .str,.str=>true
 | .int j,.int k=>decide (j=k)
 | _,_=>false
def sW (C:Cfg) (t:Nat) (x k:AV) (ok:Bool) (look:Nat→Option SObj):Option Eff:=
 match aT C.tbl t,x with
 | some ⟨.map kt e,_,_,_,_⟩,.map id=>
  (match aT C.tbl kt,aT C.tbl e,look id with
  | some rk,some re,some (.map κ τ m)=>
   (match sS τ re.zero,nC κ τ m k with
   | some z,some g=>
    if mJ rk.ti κ && decide (re.ty=some τ) then some (.pure (match ok with | true=>.tup [inj τ (g.getD z),.bool g.isSome] | false=>inj τ (g.getD z))) else none
   | _,_=>none)
  | _,_,_=>none)
 | _,_=>none
def jA (C:Cfg) (t:Nat) (x k v:AV) (look:Nat→Option SObj):Option Eff:=
 match aT C.tbl t,x with
 | some ⟨.map kt _,_,_,_,_⟩,.map id=>
  (match aT C.tbl kt,look id with
  | some rk,some (.map κ τ m)=>
   (match arg τ v with
   | some v=>(match kj κ τ m k v with | some m=>if mJ rk.ti κ then some ⟨none,.undef,[(id,.map κ τ m)]⟩ else none | none=>none)
   | none=>none)
  | _,_=>none)
 | _,_=>none
def F2:List AV→Bool
 | []=>true
 | .int .i64 (.ofNat 0) ::r=>F2 r
 | _=>false
def zE (r:TR):Option AV:=
 match r.ti with
 | .arr _ n=>if F2 r.zero && gu r.zero n then some (.row (.int .i64) (List.replicate n (0:Int))) else none
 | _=>if r.isAgg then some (.agg r.zero) else (match r.zero with | [c]=>some c | _=>none)
def Ga (tbl:List (Nat × TR)) (e:Nat) (r:TR):Option Nat:=
 match r.ti,r.zero with
 | .strct _ [(_,p),(_,s)],[.nilp,.nils]=>
  (match aT tbl p,aT tbl s with
  | some rp,some rs=>(match rp.ti,rs.ti with | .ptr e',.slice u=>if e'=e then some u else none | _,_=>none)
  | _,_=>none)
 | _,_=>none
def CD (C:Cfg) (t:Nat) (x:AV) (lo hi:Option (Option Int)):Option Eff:=
  match aT C.tbl t,x,lo,hi with
  | some ⟨.str,_,_,_,_⟩,.str s,some l,some h=>
   some ⟨some (0<=l.getD 0/\l.getD 0<=h.getD s.length/\h.getD s.length<=s.length),.str ((s.take (h.getD s.length).toNat).drop (l.getD 0).toNat),[]⟩
  | some ⟨.slice e,_,_,_,_⟩,.lst τ xs _,some l,some h=>
   (match aT C.tbl e with
   | some re=>
    if re.ty=some τ then
     some ⟨some (0<=l.getD 0/\l.getD 0<=h.getD xs.length/\h.getD xs.length<=xs.length),.lst τ ((xs.take (h.getD xs.length).toNat).drop (l.getD 0).toNat) none,[]⟩
    else none
   | none=>none)
  | _,_,_,_=>none
def Gp (C:Cfg) (t:Nat) (x:AV) (look:Nat→Option SObj):Option Eff:=
   match aT C.tbl t,x with
   | some ⟨.str,_,_,_,_⟩,.str s=>some (.pure (.int .i64 (s.length:Int)))
   | some ⟨.slice _,_,_,_,_⟩,.lst _ xs _=>some (.pure (.int .i64 (xs.length:Int)))
   | some ⟨.slice _,_,_,_,_⟩,.nils=>some (.pure (.int .i64 0))
   | some ⟨.slice _,_,_,_,_⟩,.arr _ n _=>some (.pure (.int .i64 n))
   | some ⟨.map _ _,_,_,_,_⟩,.map id=>(match look id with | some (.map _ _ m)=>some ⟨some (m.length<=9223372036854775807),.int .i64 (m.length:Int),[]⟩ | _=>none)
   | _,_=>none
def aG (C:Cfg) (o:Oper) (T:Nat→AV) (look:Nat→Option SObj):Option Eff:=
 match o.op with
 | .move x | .assign x=>some (.pure (opd T x))
 | .pick c a b=>(match opd T c with | .bool c=>some (.pure (if c=true then opd T a else opd T b)) | _=>none)
 | .alloc e=>
  (match o.dst,aT C.tbl e with
  | some d,some r=>
   (match Ga C.tbl e r with
   | some u=>(match look d with | none=>some ⟨none,.bptr d,[(d,.bld e u [])]⟩ | _=>none)
   | none=>
   (match look d,zE r with
   | none,some c=>some ⟨none,.ptr d 0,[(d,.box c)]⟩
   | _,_=>none))
  | _,_=>none)
 | .box e x=>
  (match o.dst,aT C.tbl e with
  | some d,some r=>
   (match look d with
   | none=>if (aa (opd T x)).all lF && gu (aa (opd T x)) r.size then some ⟨none,.ptr d 0,[(d,.box (opd T x))]⟩ else none
   | _=>none)
  | _,_=>none)
 | .build t ps=>
  (match aT C.tbl t with
  | some ⟨.strct _ fs,_,_,zero,_⟩=>
   (match uG fs (fun t=>(aT C.tbl t).map (·.size)) zero (ps.toList.map fun (i,x)=>(i,opd T x)) with
   | some cs=>some (.pure (.agg cs))
   | none=>none)
  | _=>none)
 | .buildSlice t len ps=>
  (match o.dst,aT C.tbl t with
  | some d,some ⟨.slice e,_,_,_,_⟩=>
   (match aT C.tbl e with
   | some ⟨_,size,_,_,some τ⟩=>
    (match pD τ 0 (ps.toList.map fun (i,x)=>(i,opd T x)),look d with
    | some l,none=>if (gu l len && Nat.ble (len *size) 1000000) && (ps.toList.map fun (i,x)=>(i,opd T x)).all (fun p=>(aa p.2).all lF) then (match C.rows d with | false=>some ⟨none,.lst τ l (some d),[(d,.tail τ l.length)]⟩ | true=>some ⟨none,.arr d l.length size,[(d,.box (.row τ l))]⟩) else none
    | _,_=>none)
   | _=>none)
  | _,_=>none)
 | .load t a=>
  (match aT C.tbl t with
  | some r=>
   (match opd T a with
   | .ptr id off=>
    (match look id with
    | some (.box c)=>(lI r c off).map .pure
    | _=>none)
   | .cptr c=>(lI r c 0).map .pure
   | .aptr id i w off=>
    (match look id with
    | some (.box (.row τ xs))=>zD r τ xs i w off
    | _=>none)
   | _=>none)
  | none=>none)
 | .store t a x=>
  (match aT C.tbl t with
  | some r=>
   (match r.size with
   | 0=>(match opd T a,aa (opd T x) with | .ptr _ _,[]=>some (.pure .undef) | _,_=>none)
   | _+1=>
   (match opd T a with
   | .ptr id off=>
    (match look id with
    | some (.box c)=>
     (match sU r c off (opd T x) with
     | some c=>some ⟨none,.undef,[(id,.box c)]⟩
     | none=>none)
    | _=>none)
   | .aptr id i w off=>
    (match look id with
    | some (.box (.row τ xs))=>pF r id τ xs i w off (opd T x)
    | _=>none)
   | .tptr τ n k=>
    (match look k with
    | some (.tailp τ' m _)=>
     if τ'=τ then
      (match arg τ (opd T x) with
      | some v=>if (aa (opd T x)).all lF && (gu (aa (opd T x)) r.size && Nat.beq r.size (ac τ)) then some ⟨some (n=m),.undef,[(k,.tailp τ m v)]⟩ else none
      | none=>none)
     else none
    | _=>none)
   | _=>none))
  | none=>none)
 | .nilCheck x=>
  (match opd T x with
  | .ptr id off=>some (.pure (.ptr id off))
  | .cptr c=>some (.pure (.cptr c))
  | .aptr id i w off=>some (.pure (.aptr id i w off))
  | .fn f cs=>some (.pure (.fn f cs))
  | .pt n x=>some ⟨some (x.isSome=true),.cptr (.st n (x.getD (dfl (.st n)))),[]⟩
  | _=>none)
 | .binOp op t x y _=>
  (match opd T x,opd T y with
  | .int k a,.int k' b=>if k=k' then xe op k a b else none
  | .str a,.str b=>xf op a b
  | .bool a,.bool b=>(match aT C.tbl t with | some ⟨.bool,_,_,_,_⟩=>sT op a b | _=>none)
  | .pt _ a,.nilp=>
   (match aT C.tbl t with
   | some ⟨.ptr _,_,_,_,_⟩=>(match op with | .eql=>some (.pure (.bool a.isNone)) | .neq=>some (.pure (.bool a.isSome)) | _=>none)
   | _=>none)
  | .iface _ _,.nilif=>
   (match aT C.tbl t with
   | some ⟨.iface,_,_,_,_⟩=>(match op with | .eql=>some (.pure (.bool false)) | .neq=>some (.pure (.bool true)) | _=>none)
   | _=>none)
  | .nilif,.nilif=>
   (match aT C.tbl t,y with
   | some ⟨.iface,_,_,_,_⟩,.const _=>(match op with | .eql=>some (.pure (.bool true)) | .neq=>some (.pure (.bool false)) | _=>none)
   | _,_=>none)
  | x,y=>(match mI x,mI y with | some cs,some ds=>xj C op t cs ds | _,_=>none))
 | .unOp op _ x=>
  (match op,opd T x with
  | .not,.bool b=>some (.pure (.bool (!b)))
  | .neg,.int k n=>some ⟨some (inR k (0 - n)),.int k (0 - n),[]⟩
  | _,_=>none)
 | .convert s d x=>
  (match aT C.tbl s,aT C.tbl d,opd T x with
  | some _,some ⟨.int k,_,_,_,_⟩,.int _ n=>some ⟨some (inR k n),.int k n,[]⟩
  | some _,some ⟨.str,_,_,_,_⟩,.str s=>some (.pure (.str s))
  | _,_,x=>G9 C s d x)
 | .fieldAddr s x f=>
  (match aT C.tbl s with
  | some r=>
   (match p8 r f,opd T x with
   | some (off,_),.ptr id o=>some (.pure (.ptr id (o+off)))
   | some (off,_),.aptr id i w o=>some (.pure (.aptr id i w (o+off)))
   | some (off,t),.cptr c=>
    (match off,c,aT C.tbl t with
    | off,.st n x,some ⟨_,_,_,_,some (.st m)⟩=>
     (match kg n off x with
     | some (.st m' y)=>if m'=m then some (.pure (.cptr (.st m' y))) else none
     | _=>(match lH (aa (.st n x)) off with | some (c ::r)=>some (.pure (.cptr (.agg (c ::r)))) | _=>none))
    | off,c,_=>(match lH (aa c) off with | some (c ::r)=>some (.pure (.cptr (.agg (c ::r)))) | _=>none))
   | _,_=>none)
  | none=>none)
 | .field s x f=>
  (match aT C.tbl s with
  | some r=>
   (match p8 r f with
   | some (off,t)=>
    (match aT C.tbl t,opd T x with
    | some rt,.agg cs=>(lI rt (.agg cs) off).map .pure
    | some rt,.st n x=>if GU r n then (lI rt (.st n x) off).map .pure else none
    | _,_=>none)
   | _=>none)
  | none=>none)
 | .indexAddr t x i=>
  (match aT C.tbl t,opd T x,opd T i with
  | some ⟨.slice e,_,_,_,_⟩,.lst τ xs _,.int _ n=>
   (match aT C.tbl e with
   | some re=>if re.ty=some τ then some ⟨some (0<=n/\n < xs.length),.cptr (inj τ (xs.getD n.toNat (dfl τ))),[]⟩ else none
   | none=>none)
  | some ⟨.slice e,_,_,_,_⟩,.arr id m w,.int _ n=>
   (match aT C.tbl e with
   | some re=>if re.size=w then some ⟨some (0<=n/\n < m),.aptr id n.toNat w 0,[]⟩ else none
   | none=>none)
  | some ⟨.slice e,_,_,_,_⟩,.lstp τ xs k,.int _ n=>
   (match aT C.tbl e with
   | some re=>if re.ty=some τ then some ⟨some (n=(xs.length:Int)),.tptr τ xs.length k,[]⟩ else none
   | none=>none)
  | some ⟨.arr e m,_,_,_,_⟩,.ptr id 0,.int _ n=>
   (match aT C.tbl e with
   | some re=>some ⟨some (0<=n/\n < m),.aptr id n.toNat re.size 0,[]⟩
   | none=>none)
  | _,_,_=>none)
 | .index t x i=>
  (match aT C.tbl t,opd T x,opd T i with
  | some ⟨.str,_,_,_,_⟩,.str s,.int _ n=>some ⟨some (0<=n/\n < s.length),.int .u8 ((s.getD n.toNat 0).toNat:Int),[]⟩
  | _,_,_=>none)
 | .slice t x lo hi none=>CD C t (opd T x) (bnd T lo) (bnd T hi)
 | .extract x i=>(match opd T x with | .tup vs=>(nth vs i).map .pure | _=>none)
 | .call {callee:=.builtin .len,args,argTypes}=>
  (match args.toList,argTypes.toList with
  | [x],[t]=>Gp C t (opd T x) look
  | _,_=>none)
 | .call {callee:=.builtin .append,args,argTypes}=>
  (match args.toList,argTypes.toList,o.dst with
  | [x,y],[t,t'],some d=>if t ==t' then (match C.pend d with | true=>p9 C t d (opd T x) (opd T y) look | false=>sV C t d (opd T x) (opd T y) look) else (match opd T y with | .str s=>pa C t t' (opd T x) s look | _=>none)
  | _,_,_=>none)
 | .call {callee:=.builtin .max,args,..}=>
  (match args.toList with
  | [x,y]=>(match opd T x,opd T y with | .int k a,.int k' b=>if k=k' then some (.pure (.int k (max a b))) else none | _,_=>none)
  | _=>none)
 | .call {callee:=.builtin .min,args,..}=>
  (match args.toList with
  | [x,y]=>(match opd T x,opd T y with | .int k a,.int k' b=>if k=k' then some (.pure (.int k (min a b))) else none | _,_=>none)
  | _=>none)
 | .call {callee:=.builtin _,..}=>none
 | .call _=>(match fY C o T look with | some r=>some (fx (ki C o) look r.eff) | none=>none)
 | .makeFunc (.func f) first caps=>if first.isEmpty then some (.pure (.fn f (caps.toList.map (opd T)))) else none
 | .makeInterface t x=>(match aT C.tbl t with | some r=>(match r.ti with | .iface=>none | _=>some (.pure (.iface t (opd T x)))) | none=>none)
 | .typeAssert x _ t true=>
  (match opd T x,aT C.tbl t with
  | .iface t' a,some r=>(match r.ti with | .iface=>none | _=>if t'=t then some (.pure (.tup [a,.bool true])) else none)
  | _,_=>none)
 | .panic x=>(match opd T x with | .iface _ _=>some (.pure .undef) | _=>none)
 | .makeMap t h=>
  (match o.dst,aT C.tbl t with
  | some d,some ⟨.map k e,_,_,_,_⟩=>
   (match aT C.tbl k,aT C.tbl e,look d with
   | some ⟨_,_,_,_,some κ⟩,some ⟨_,_,_,_,some τ⟩,none=>
    (match h.map (opd T) with
    | none | some (.int _ _)=>some ⟨none,.map d,[(d,.map κ τ [])]⟩
    | _=>none)
   | _,_,_=>none)
  | _,_=>none)
 | .lookup t x k ok=>sW C t (opd T x) (opd T k) ok look
 | .mapUpdate t x k v=>jA C t (opd T x) (opd T k) (opd T v) look
 | .insert t x k v=>jA C t (opd T x) (opd T k) (opd T v) look
 | .makeSlice t n c=>
  (match o.dst,aT C.tbl t,opd T n,opd T c with
  | some d,some ⟨.slice e,_,_,_,_⟩,.int .i64 a,.int .i64 b=>
   (match aT C.tbl e,look d with
   | some ⟨_,size,bytes,zero,some τ⟩,none=>
    (match sS τ zero with
    | some z=>
     (match n with
     | .const (.int _ (.ofNat 0))=>some ⟨some (0<=b/\b *bytes<=140737488355328),.lst τ [] (some d),[(d,.tail τ 0)]⟩
     | _=>some ⟨some (0<=a/\a<=b/\b *bytes<=140737488355328),.arr d a.toNat size,[(d,.box (.row τ (List.replicate a.toNat z)))]⟩)
    | none=>none)
   | _,_=>none)
  | _,_,_,_=>none)
 | _=>none
def xk (t:List (Nat × AV)) (d:Option Nat) (v:AV):List (Nat × AV):=
 match d with
 | some d=>pC t d v
 | none=>t
def putB:List (Nat × SObj)→List (Nat × SObj)→List (Nat × SObj)
 | b,[]=>b
 | b,(i,o) ::r=>putB (nB b i o) r
def St.put (s:St) (d:Option Nat) (e:Eff):St:=⟨xk s.t d e.val,putB s.b e.upd⟩
def pb (ops:List Oper) (i:Nat):Bool:=ops.any fun o=>match o.guard with | some (j,_)=>j ==i | none=>false
def sp (b:Bool) (p q:Prop):Prop:=if b=true then p else q
def zF:Option Prop→Prop→Prop
 | none,q=>q
 | some p,q=>p/\q
abbrev gw:=List Nat × List Nat
def cX (C:Cfg) (ops:List Oper) (draw:Bool) (kp:AV→St→Prop):List Oper→Nat→St→List gw→(St→List gw→Prop)→Prop
 | [],_,s,fs,k=>k s fs.reverse
 | o ::r,i,s,fs,k=>
  let on:Unit→Prop:=fun _=>
   match aG C o (bD s.t) (ax s.b) with
   | none=>False
   | some e=>
    zF e.ob
    (match dV C o (bD s.t) (ax s.b) with
    | none=>
     (match pb ops i,e.val with
     | true,.bool b=>
      sp b (cX C ops draw kp r (i+1) (s.put o.dst {e with val:=.bool true}) ((aX C o (bD s.t) (ax s.b),e.upd.map (·.1)) ::fs) k)
       (cX C ops draw kp r (i+1) (s.put o.dst {e with val:=.bool false}) ((aX C o (bD s.t) (ax s.b),e.upd.map (·.1)) ::fs) k)
     | true,_=>False
     | false,_=>cX C ops draw kp r (i+1) (s.put o.dst e) ((aX C o (bD s.t) (ax s.b),e.upd.map (·.1)) ::fs) k)
    | some (b,pv,u)=>
     (match draw || pb ops i with
     | true=>False
     | false=>sp b (kp pv ⟨s.t,putB s.b u⟩) (cX C ops draw kp r (i+1) (s.put o.dst e) ((aX C o (bD s.t) (ax s.b),e.upd.map (·.1)) ::fs) k)))
  let off:Unit→Prop:=fun _=>cX C ops draw kp r (i+1) ⟨xk s.t o.dst (.tup []),s.b⟩ (([],[]) ::fs) k
  match o.guard with
  | none=>on ()
  | some (j,want)=>
   match (nth ops j).bind (·.dst) with
   | none=>False
   | some d=>
    match bD s.t d with
    | .bool true=>if want then on () else off ()
    | .bool false=>if want then off () else on ()
    | .tup []=>off ()
    | _=>False
def xl (o:Oper):List Nat:=o.op.operands.toList.filterMap fun | .tmp t=>some t | _=>none
def jB (ops:List Oper) (o:Oper):List Nat:=
 xl o++(match o.guard with | some (g,_)=>((nth ops g).bind (·.dst)).toList | none=>[])
def Ao (a b:List Nat):Bool:=a.all fun x=>!b.contains x
def sX (ops:List Oper) (x y:Oper):Bool:=
 (match x.dst with | some d=>!(jB ops y).contains d && !(y.dst ==some d) | none=>true) &&
 (match y.dst with | some d=>!(jB ops x).contains d | none=>true)
def sY (f g:gw):Bool:=Ao f.2 (g.1++g.2) && Ao g.2 f.1
def pG (acc:List Nat) (o:Oper):Nat:=(o.after.toList.filter (Region.binds .any)).foldl (init:=0) fun m e=>m ||| 2 ^ e.on ||| acc.getD e.on 0
def xm (ops:List Oper):List Nat:=ops.foldl (init:=[]) fun acc o=>acc++[pG acc o]
def iq (ops:List Oper) (fs:List gw):Bool:=
 ((List.range ops.length).all fun j=>(List.range j).all fun i=>
  ((xm ops).getD j 0).testBit i ||
  (match nth ops i,nth ops j,nth fs i,nth fs j with
   | some x,some y,some f,some g=>sX ops x y && sY f g
   | _,_,_,_=>false)) &&
 (ops.zipIdx.all fun (o,j)=>o.after.all fun e=>!Region.binds .any e || Nat.blt e.on j)
def eF (A:List Nat) (s:St):Bool:=(s.t.all fun x=>Ao (ids x.2) A) && (s.b.all fun x=>Ao (xg x.2) A)
def uI (ops:List Oper):List Nat:=
 ops.filterMap fun o=>match o.op with
  | .alloc _ | .box .. | .buildSlice .. | .makeSlice .. | .makeMap .. | .call {callee:=.builtin .append,..}=>o.dst
  | _=>none
def zG (ops:List Oper):List Nat:=
 ops.filterMap fun o=>match o.op with
  | .call {callee:=.value _,..}=>o.dst
  | _=>none
def CE (ds cs:List Nat) (i:Nat):Bool:=ds.contains i || (Nat.ble 1000 i && cs.contains (i % 1000))
def enter (ops:List Oper) (s:St):Option St:=
 let A:=(s.b.map (·.1)).filter fun i=>CE (uI ops) (zG ops) i && !cD i
 if A.isEmpty then some s else
  let s':St:=⟨s.t.filter fun x=>!A.contains x.1,s.b.filter fun x=>!A.contains x.1⟩
  if eF A s' then some s' else none
mutual
def pubV (id:Nat) (c:AV):AV→AV
 | .ptr i o=>(match o with | 0=>if i=id then .cptr c else .ptr i 0 | o+1=>.ptr i (o+1))
 | .arr i n w=>if i=id then (match c with | .row τ xs=>if w=ac τ then .lst τ (xs.take n) none else .arr i n w | _=>.arr i n w) else .arr i n w
 | .cptr d=>.cptr (pubV id c d)
 | .agg cs=>.agg (pubVs id c cs)
 | .tup cs=>.tup (pubVs id c cs)
 | .fn f cs=>.fn f (pubVs id c cs)
 | .iface t a=>.iface t (pubV id c a)
 | a=>a
def pubVs (id:Nat) (c:AV):List AV→List AV
 | []=>[]
 | a ::r=>pubV id c a ::pubVs id c r
end
def CF (id:Nat) (c:AV):SObj→SObj
 | .box d=>.box (pubV id c d)
 | o=>o
def Gq (id:Nat) (s:St):Option St:=
 match ax s.b id with
 | some (.box c)=>
  let s':St:=⟨s.t.map fun x=>(x.1,pubV id c x.2),(s.b.filter fun x=>!(x.1 ==id)).map fun x=>(x.1,CF id c x.2)⟩
  if eF [id] s' && Ao (ids c) [id] && !cD id then some s' else none
 | _=>none
def pH:List Nat→St→Option St
 | [],s=>some s
 | i ::r,s=>(match Gq i s with | some s=>pH r s | none=>none)
mutual
def lensV (k:Nat):AV→List Nat
 | .lstp _ xs j=>(match Nat.beq j k with | true=>[xs.length] | false=>[])
 | .cptr d=>lensV k d
 | .agg cs=>lensVs k cs
 | .tup cs=>lensVs k cs
 | .fn _ cs=>lensVs k cs
 | .iface _ a=>lensV k a
 | _=>[]
def lensVs (k:Nat):List AV→List Nat
 | []=>[]
 | a ::r=>lensV k a++lensVs k r
end
mutual
def finV (k:Nat) (τ:Ty) (x:den τ):AV→AV
 | .lstp σ xs j=>(match Nat.beq j k with | true=>(match kf τ σ [x] with | some l=>.lst σ (xs++l) (some k) | none=>.undef) | false=>.lstp σ xs j)
 | .tptr σ n j=>(match Nat.beq j k with | true=>.undef | false=>.tptr σ n j)
 | .cptr d=>.cptr (finV k τ x d)
 | .agg cs=>.agg (finVs k τ x cs)
 | .tup cs=>.tup (finVs k τ x cs)
 | .fn f cs=>.fn f (finVs k τ x cs)
 | .iface t a=>.iface t (finV k τ x a)
 | a=>a
def finVs (k:Nat) (τ:Ty) (x:den τ):List AV→List AV
 | []=>[]
 | a ::r=>finV k τ x a ::finVs k τ x r
end
def GV (k:Nat):SObj→List Nat
 | .box c=>lensV k c
 | _=>[]
def CG (k:Nat) (τ:Ty) (x:den τ):SObj→SObj
 | .box c=>.box (finV k τ x c)
 | o=>o
def xn (n:Nat):List Nat→Prop→Prop
 | [],q=>q
 | m ::r,q=>m=n/\xn n r q
def CH (k:Nat) (s:St) (Q:St→Prop):Prop:=
 match ax s.b k with
 | some (.tailp τ n x)=>
  xn n (s.t.flatMap (fun y=>lensV k y.2)++s.b.flatMap (fun y=>GV k y.2))
   (Q ⟨s.t.map fun y=>(y.1,finV k τ x y.2),(nB s.b k (.tail τ (n+1))).map fun y=>(y.1,CG k τ x y.2)⟩)
 | _=>Q s
def Ap:List Nat→St→(St→Prop)→Prop
 | [],s,Q=>Q s
 | k ::r,s,Q=>CH k s fun s=>Ap r s Q
def sZ:List (Nat × SObj)→List Nat
 | []=>[]
 | (k,.tailp _ _ _) ::r=>k ::sZ r
 | _ ::r=>sZ r
def finA (s:St) (Q:St→Prop):Prop:=Ap (sZ s.b) s Q
def LeF (G:List Nat):AV→AV→Prop
 | _,.undef=>True
 | .int k n,.int k' n'=>if k=k' then n=n' else False
 | .bool b,.bool b'=>b=b'
 | .str s,.str s'=>s=s'
 | .lst τ xs o,.lst σ ys p=>(match kf τ σ xs with | some xs=>xs=ys | none=>False)/\(if p=none∨p=o then True else False)
 | .nils,.lst _ ys p=>(match p with | none=>True | some k=>if G.contains k=true then True else False)/\ys=[]
 | .nils,.nils=>True
 | .nilp,.nilp=>True
 | .ptr i o,.ptr j p=>if i=j/\o=p then True else False
 | .st n x,.st m y=>(match mD n m x with | some x=>x=y | none=>False)
 | .row τ xs,.row σ ys=>(match kf τ σ xs with | some xs=>xs=ys | none=>False)
 | .arr i n w,.arr j m v=>if i=j/\w=v then n=m else False
 | .aptr i n w o,.aptr j m v p=>if i=j/\w=v/\o=p then n=m else False
 | .map i,.map j=>if i=j then True else False
 | .bptr i,.bptr j=>if i=j then True else False
 | .pt n x,.pt m y=>(match rW n m x with | some x=>x=y | none=>False)
 | .nilp,.pt _ y=>y=none
 | .nilif,.nilif=>True
 | _,_=>False
def uJ (G:List Nat):List AV→List AV→Prop
 | [],[]=>True
 | a ::r,b ::s=>LeF G a b/\uJ G r s
 | _,_=>False
def uK:AV→AV→Prop
 | .agg _,.undef=>False
 | .st _ _,.undef=>False
 | .row _ _,.undef=>False
 | _,_=>True
mutual
def LeV (G:List Nat):AV→AV→Prop
 | .cptr c,.cptr d=>uK c d/\LeV G c d
 | .cptr (.st n x),.pt m y=>(match mD n m x with | some x=>some x=y | none=>False)
 | .iface t a,.iface u b=>(if t=u then True else False)/\LeV G a b
 | .agg cs,.st m y=>uJ G cs (cells (.st m) y)
 | .st n x,.agg ds=>uJ G (cells (.st n) x) ds
 | .agg cs,.agg ds=>LeL G cs ds
 | .tup cs,.tup ds=>LeL G cs ds
 | .fn f cs,.fn g ds=>(if f=g then True else False)/\LeL G cs ds
 | a,b=>LeF G a b
def LeL (G:List Nat):List AV→List AV→Prop
 | [],[]=>True
 | a ::r,b ::s=>LeV G a b/\LeL G r s
 | _,_=>False
end
def CI (κ τ κ' τ':Ty) (m:List (den κ × den τ)):Option (List (den κ' × den τ')):=if h:κ=κ'/\τ=τ' then some (h.1 ▸ h.2 ▸ m) else none
def LeT (G:List Nat) (s:St):List (Nat × AV)→Prop
 | []=>True
 | (i,a) ::r=>LeV G (bD s.t i) a/\LeT G s r
def LeB (G:List Nat) (s:St):List (Nat × SObj)→Prop
 | []=>True
 | (i,.box d) ::r=>(match ax s.b i with | some (.box c)=>uK c d/\LeV G c d | _=>False)/\LeB G s r
 | (i,.tail τ n) ::r=>(match ax s.b i with | some (.tail σ m)=>(if σ=τ then m=n else False) | none=>n=0 | _=>False)/\LeB G s r
 | (i,.map κ τ m) ::r=>(match ax s.b i with | some (.map κ' τ' m')=>(match CI κ' τ' κ τ m' with | some m'=>m'=m | none=>False) | _=>False)/\LeB G s r
 | (i,.bld t u l) ::r=>(match ax s.b i with | some (.bld t' u' l')=>(if t'=t/\u'=u then l'=l else False) | _=>False)/\LeB G s r
 | (_,.tailp _ _ _) ::_=>False
def am {α:Type} (l:List (Nat × α)):List Nat:=l.map (·.1)
def fb (s s':St):List Nat:=(am s'.b).filter fun i=>(ax s.b i).isNone
def LeS (s s':St):Prop:=
 (if eF ((am s.b).filter fun i=>!(am s'.b).contains i) s' && ((am s.b).filter fun i=>!(am s'.b).contains i).all (fun i=>!cD i) then True else False)/\LeT (fb s s') s s'.t/\LeB (fb s s') s s'.b
def chk (b:Bool) (k:Prop):Prop:=match b with | true=>k | false=>False
def cF (G:List Nat) (a b:AV) (k:Prop):Prop:=
 match a,b with
 | _,.undef=>k
 | .int j n,.int j' n'=>chk (decide (j=j')) (n=n'/\k)
 | .bool b,.bool b'=>b=b'/\k
 | .str s,.str s'=>s=s'/\k
 | .lst τ xs o,.lst σ ys p=>(match kf τ σ xs with | some xs=>chk (decide (p=none∨p=o)) (xs=ys/\k) | none=>False)
 | .nils,.lst _ ys p=>(match p with | none=>ys=[]/\k | some i=>chk (G.contains i) (ys=[]/\k))
 | .nils,.nils=>k
 | .nilp,.nilp=>k
 | .ptr i o,.ptr j p=>chk (decide (i=j/\o=p)) k
 | .st n x,.st m y=>(match mD n m x with | some x=>x=y/\k | none=>False)
 | .row τ xs,.row σ ys=>(match kf τ σ xs with | some xs=>xs=ys/\k | none=>False)
 | .arr i n w,.arr j m v=>chk (decide (i=j/\w=v)) (n=m/\k)
 | .aptr i n w o,.aptr j m v p=>chk (decide (i=j/\w=v/\o=p)) (n=m/\k)
 | .map i,.map j=>chk (decide (i=j)) k
 | .bptr i,.bptr j=>chk (decide (i=j)) k
 | .pt n x,.pt m y=>(match rW n m x with | some x=>x=y/\k | none=>False)
 | .nilp,.pt _ y=>y=none/\k
 | .nilif,.nilif=>k
 | _,_=>False
def cFs (G:List Nat):List AV→List AV→Prop→Prop
 | [],[],k=>k
 | a ::r,b ::s,k=>cF G a b (cFs G r s k)
 | _,_,_=>False
def t7:AV→AV→Bool
 | .agg _,.undef=>false
 | .st _ _,.undef=>false
 | .row _ _,.undef=>false
 | _,_=>true
mutual
def cV (G:List Nat):AV→AV→Prop→Prop
 | .cptr c,.cptr d,k=>chk (t7 c d) (cV G c d k)
 | .cptr (.st n x),.pt m y,k=>(match mD n m x with | some x=>some x=y/\k | none=>False)
 | .iface t a,.iface u b,k=>chk (Nat.beq t u) (cV G a b k)
 | .agg cs,.st m y,k=>cFs G cs (cells (.st m) y) k
 | .st n x,.agg ds,k=>cFs G (cells (.st n) x) ds k
 | .agg cs,.agg ds,k=>cL G cs ds k
 | .tup cs,.tup ds,k=>cL G cs ds k
 | .fn f cs,.fn g ds,k=>chk (Nat.beq f g) (cL G cs ds k)
 | a,b,k=>cF G a b k
def cL (G:List Nat):List AV→List AV→Prop→Prop
 | [],[],k=>k
 | a ::r,b ::s,k=>cV G a b (cL G r s k)
 | _,_,_=>False
end
def cT (G:List Nat) (s:St):List (Nat × AV)→Prop→Prop
 | [],k=>k
 | (i,a) ::r,k=>cV G (bD s.t i) a (cT G s r k)
def cB (G:List Nat) (s:St):List (Nat × SObj)→Prop
 | []=>True
 | (i,.box d) ::r=>(match ax s.b i with | some (.box c)=>chk (t7 c d) (cV G c d (cB G s r)) | _=>False)
 | (i,.tail τ n) ::r=>
  (match ax s.b i with
  | some (.tail σ m)=>chk (decide (σ=τ)) (m=n/\cB G s r)
  | none=>n=0/\cB G s r
  | _=>False)
 | (i,.map κ τ m) ::r=>(match ax s.b i with | some (.map κ' τ' m')=>(match CI κ' τ' κ τ m' with | some m'=>m'=m/\cB G s r | none=>False) | _=>False)
 | (i,.bld t u l) ::r=>(match ax s.b i with | some (.bld t' u' l')=>chk (decide (t'=t/\u'=u)) (l'=l/\cB G s r) | _=>False)
 | (_,.tailp _ _ _) ::_=>False
def cS (s s':St):Prop:=
 chk (eF ((am s.b).filter fun i=>!(am s'.b).contains i) s' && ((am s.b).filter fun i=>!(am s'.b).contains i).all (fun i=>!cD i))
  (cT (fb s s') s s'.t (cB (fb s s') s s'.b))
inductive SX where
 | normal | exit (id:Nat) | ret | pan (v:AV)
structure LA where
 ι:Type
 pre:ι→Prop
 t:ι→List (Nat × AV)
 b:ι→List (Nat × SObj)
 m:ι→Nat
structure An where
 l:List (Nat × (St→LA))
 p:List (Nat × List Nat)
 j:List (Nat × (St→List (Nat × AV) × List (Nat × SObj)))
def CJ:List (Nat × (St→List (Nat × AV) × List (Nat × SObj)))→Nat→Option (St→List (Nat × AV) × List (Nat × SObj))
 | [],_=>none
 | (j,x) ::r,i=>if j ==i then some x else CJ r i
def Gb:List (Nat × List Nat)→Nat→List Nat
 | [],_=>[]
 | (j,x) ::r,i=>if j ==i then x else Gb r i
def dx:Code→List Nat
 | .region _ ops _=>ops.toList.filterMap (·.dst)
 | .seq a b=>dx a++dx b
 | .cond _ a b=>dx a++dx b
 | .block _ c | .loop c | .scope c=>dx c
 | _=>[]
def jC (D:List Nat) (s:St) (ts:List (Nat × AV)) (bs:List (Nat × SObj)):St:=
 ⟨ts++s.t.filter fun x=>!D.contains x.1 && !(pI ts).contains x.1,bs++s.b.filter fun x=>!(CE D D x.1 && !cD x.1) && !(pI bs).contains x.1⟩
where pI {α:Type} (l:List (Nat × α)):List Nat:=l.map (·.1)
def ez:Code→Option Nat
 | .region id _ _=>some id
 | .seq a b=>(ez a).or (ez b)
 | .cond _ a b=>(ez a).or (ez b)
 | .block _ c | .loop c | .scope c=>ez c
 | _=>none
def Gc (l:List (Nat × (St→LA))) (i:Nat):Option (St→LA):=
 match l with
 | []=>none
 | (j,a) ::r=>if j ==i then some a else Gc r i
mutual
def forceV:AV→(AV→Prop)→Prop
 | .undef,k=>k .undef
 | .int κ n,k=>k (.int κ n)
 | .bool b,k=>k (.bool b)
 | .str s,k=>k (.str s)
 | .lst τ xs none,k=>k (.lst τ xs none)
 | .lst τ xs (some i),k=>k (.lst τ xs (some i))
 | .nils,k=>k .nils
 | .ptr i o,k=>k (.ptr i o)
 | .cptr c,k=>forceV c fun c=>k (.cptr c)
 | .nilp,k=>k .nilp
 | .st n x,k=>k (.st n x)
 | .agg cs,k=>forceL cs fun cs=>k (.agg cs)
 | .tup cs,k=>forceL cs fun cs=>k (.tup cs)
 | .fn f cs,k=>forceL cs fun cs=>k (.fn f cs)
 | .row τ xs,k=>k (.row τ xs)
 | .arr i n w,k=>k (.arr i n w)
 | .aptr i n w o,k=>k (.aptr i n w o)
 | .map i,k=>k (.map i)
 | .bptr i,k=>k (.bptr i)
 | .iface t a,k=>forceV a fun a=>k (.iface t a)
 | .nilif,k=>k .nilif
 | .pt n x,k=>k (.pt n x)
 | .lstp τ xs i,k=>k (.lstp τ xs i)
 | .tptr τ n i,k=>k (.tptr τ n i)
def forceL:List AV→(List AV→Prop)→Prop
 | [],k=>k []
 | a ::r,k=>forceV a fun a=>forceL r fun r=>k (a ::r)
end
def t8:List (Nat × AV)→(List (Nat × AV)→Prop)→Prop
 | [],k=>k []
 | (i,a) ::r,k=>forceV a fun a=>t8 r fun r=>k ((i,a) ::r)
def gI:List (Nat × SObj)→(List (Nat × SObj)→Prop)→Prop
 | [],k=>k []
 | (i,.box c) ::r,k=>forceV c fun c=>gI r fun r=>k ((i,.box c) ::r)
 | (i,.tail τ n) ::r,k=>gI r fun r=>k ((i,.tail τ n) ::r)
 | (i,.map κ τ m) ::r,k=>gI r fun r=>k ((i,.map κ τ m) ::r)
 | (i,.bld t u l) ::r,k=>gI r fun r=>k ((i,.bld t u l) ::r)
 | (i,.tailp τ n x) ::r,k=>gI r fun r=>k ((i,.tailp τ n x) ::r)
def gO (s:St) (k:St→Prop):Prop:=t8 s.t fun t=>gI s.b fun b=>k ⟨t,b⟩
def zH:List Oper→List Nat→List Oper→List Nat
 | _,_,[]=>[]
 | ops,w,o ::r=>((jB ops o).filter fun t=>!w.contains t)++zH ops (o.dst.toList++w) r
def iL:Code→List Nat
 | .region _ ops _=>zH ops.toList [] ops.toList
 | .seq a b=>iL a++iL b
 | .cond (.tmp t) a b=>t ::(iL a++iL b)
 | .cond _ a b=>iL a++iL b
 | .block _ c | .loop c | .scope c=>iL c
 | _=>[]
def Gr:ResultVar→Nat
 | .tmp t=>t
 | .cell a _=>a
def Gs (fn:Func) (c:Code):List Nat:=(iL c++fn.results.toList.map Gr).eraseDups
def trim (keep:List Nat) (s:St):St:=⟨s.t.filter fun x=>keep.contains x.1,s.b⟩
def iM:List Nat→(List Nat→Prop)→Prop
 | [],k=>k []
 | 0 ::r,k=>iM r fun r=>k (0 ::r)
 | (n+1) ::r,k=>iM r fun r=>k ((n+1) ::r)
def F3 (c:Operand) (v:Bool) (s:St):St:=
 match c with
 | .tmp t=>⟨pC s.t t (.bool v),s.b⟩
 | _=>s
structure KL where
 m1:Nat
 src:Operand
 it:Nat
 t:Nat
 nx:Nat
 c:Nat
 en:Nat
 k1:Nat
 kv:Nat
 d1:Nat
 dst:Nat
 k2:Nat
 t2:Nat
 n:Int
def KL.wr (L:KL):List Nat:=[L.m1,L.it,L.nx,L.c,L.en,L.k1,L.kv,L.d1,L.k2]
def pI:Code→Code→Option KL
 | .region _ r1 false,.block x (.loop (.seq (.region _ r2 false) (.seq (.cond (.tmp c) .skip (.exit x2)) (.block _ (.seq (.region _ r3 false) (.region _ r4 false))))))=>
  match r1.toList,r2.toList,r3.toList,r4.toList with
  | [⟨some m1,.move src,_,_,_,none⟩,⟨some it,.range t (.tmp m1'),_,_,_,none⟩],
   [⟨some nx,.next (.tmp it') false,_,_,_,none⟩,⟨some c',.extract (.tmp nx') 0,_,_,_,none⟩],
   [⟨some en,.entry (.tmp it''),_,_,_,none⟩,⟨some k1,.extract (.tmp en') 0,_,_,_,none⟩,⟨some kv,.assign (.tmp k1'),_,_,_,none⟩],
   [⟨some d1,.move (.tmp dst),_,_,_,none⟩,⟨some k2,.move (.tmp kv'),_,_,_,none⟩,⟨none,.mapUpdate t2 (.tmp d1') (.tmp k2') (.const (.int .i64 n)),_,_,_,none⟩]=>
   if x2 ==x && m1' ==m1 && it' ==it && it'' ==it && nx' ==nx && c' ==c && en' ==en && k1' ==k1 && kv' ==kv && d1' ==d1 && k2' ==k2 && okC .i64 n
    && bX [m1,it,nx,c,en,k1,kv,d1,k2,dst] then
    some ⟨m1,src,it,t,nx,c,en,k1,kv,d1,dst,k2,t2,n⟩ else none
  | _,_,_,_=>none
 | _,_=>none
def CK (C:Cfg) (L:KL) (s:St) (Q:SX→St→Prop):Prop:=
 match opd (bD s.t) L.src,bD s.t L.dst with
 | .map i,.map j=>
  match ax s.b i,ax s.b j,aT C.tbl L.t,aT C.tbl L.t2 with
  | some (.map .str _ m),some (.map .str (.int .i64) d),some ⟨.map _ _,_,_,_,_⟩,some ⟨.map kt _,_,_,_,_⟩=>
   (match aT C.tbl kt with
   | some rk=>
    if (mJ rk.ti .str && !(i ==j))=true then
     ∀d':List (Str × Int),(d'.map (·.1)).Nodup→(∀k,fy d' k=if (fy m k).isSome=true then some L.n else fy d k)→
      Q .normal ⟨s.t.filter fun x=>!L.wr.contains x.1,nB s.b j (.map .str (.int .i64) d')⟩
    else False
   | none=>False)
  | _,_,_,_=>False
 | _,_=>False
def pc (C:Cfg) (keep:List Nat) (ops:Array Oper) (draw:Bool) (s:St) (Q:SX→St→Prop):Prop:=
 cX C ops.toList draw (fun v s=>gO s fun s=>forceV v fun v=>Q (.pan v) s) ops.toList 0 s [] fun s' fs=>finA s' fun s'=>gO (trim keep s') fun s'=>
  if draw then (if iq ops.toList fs then Q .normal s' else False) else Q .normal s'
def swp (C:Cfg) (keep:List Nat) (ann:An):Code→St→(SX→St→Prop)→Prop
 | .skip,s,Q=>Q .normal s
 | .seq a b,s,Q=>
  match pI a b with
  | some L=>CK C L s fun x s=>gO s fun s=>Q x s
  | none=>
   match (ez b).bind fun r=>CJ ann.j (100000+r) with
   | none=>swp C keep ann a s fun
    | .normal,s'=>swp C keep ann b s' Q
    | e,s'=>Q e s'
   | some J=>swp C keep ann a s (fun x s'=>match x with | .normal=>cS s' (jC (dx a) s (J s).1 (J s).2) | e=>Q e s')/\
     gO (jC (dx a) s (J s).1 (J s).2) fun i=>swp C keep ann b i Q
 | .cond c a b,s,Q=>
  match opd (bD s.t) c with
  | .bool b'=>sp b' (swp C keep ann a (F3 c true s) Q) (swp C keep ann b (F3 c false s) Q)
  | _=>False
 | .block id c,s,Q=>swp C keep ann c s fun
  | .exit j,s'=>if j ==id then Q .normal s' else Q (.exit j) s'
  | e,s'=>Q e s'
 | .exit id,s,Q=>Q (.exit id) s
 | .scope c,s,Q=>swp C keep ann c s Q
 | .label _,s,Q=>Q .normal s
 | .ret,s,Q=>Q .ret s
 | .region id ops draw,s,Q=>
  match pH (Gb ann.p id) s with
  | none=>False
  | some s=>
   match enter ops.toList s with
   | none=>False
   | some s=>
    match CJ ann.j id with
    | none=>pc C keep ops draw s Q
    | some J=>pc C keep ops draw s (fun x s'=>match x with | .normal=>cS s' (jC (dx (.region id ops draw)) s (J s).1 (J s).2) | e=>Q e s')/\
      gO (jC (dx (.region id ops draw)) s (J s).1 (J s).2) fun i=>Q .normal i
 | .loop c,s,Q=>
  match ((ez c).bind (Gc ann.l)).map (fun A=>A s) with
  | none=>False
  | some A=>
   (∃x,A.pre x/\gO (jC (dx c) s (A.t x) (A.b x)) fun i=>cS s i)/\
   ∀x,A.pre x→gO (jC (dx c) s (A.t x) (A.b x)) fun i=>swp C keep ann c i fun
    | .normal,s'=>∃y,A.pre y/\A.m y < A.m x/\gO (jC (dx c) s (A.t y) (A.b y)) fun i=>cS s' i
    | e,s'=>Q e s'
 | _,_,_=>False
def mK (tbl:List (Nat × TR)) (s:St):List ResultVar→Option (List AV)
 | []=>some []
 | .tmp t ::r=>(match mK tbl s r with | some l=>some (bD s.t t ::l) | none=>none)
 | .cell a t ::r=>
  (match bD s.t a,aT tbl t with
   | .ptr id off,some rt=>
    (match ax s.b id with
    | some (.box c)=>(match lI rt c off,mK tbl s r with | some v,some l=>some (v ::l) | _,_=>none)
    | _=>none)
   | _,_=>none)
def eJ:Nat→List AV→List (Nat × AV)
 | _,[]=>[]
 | i,a ::r=>(i,a) ::eJ (i+1) r
def rX (res:Option (List AV)) (s:St) (val:AV) (b:List (Nat × SObj)):Prop:=
 match res with
 | some [a]=>cS ⟨[(0,a)],s.b⟩ ⟨[(0,val)],b⟩
 | some l=>(match val with | .tup rs=>if gu l rs.length then cS ⟨eJ 0 l,s.b⟩ ⟨eJ 0 rs,b⟩ else False | _=>False)
 | none=>False
def cY (n:Nat):Code→Bool
 | .region _ ops _=>ops.toList.all fun o=>match o.dst with | some d=>Nat.blt d n | none=>true
 | .seq a b=>cY n a && cY n b
 | .cond _ a b=>cY n a && cY n b
 | .block _ c=>cY n c
 | .loop c=>cY n c
 | .scope c=>cY n c
 | _=>true
def fwp (C:Cfg) (ann:An) (fn:Func) (args:List AV) (S:List (Nat × SObj)) (A:Ans):Prop:=
 match fn.body with
 | none=>False
 | some c=>
  match cY fn.ntmps c && mF args fn.ntmps && (am S).all cD with
  | false=>False
  | true=>iM (Gs fn c) fun keep=>gO ⟨eJ 0 args,S⟩ fun i=>swp C keep ann c i fun
   | .exit _,_=>False
   | .pan v,s=>(match A.pan with | some (b,pv,u)=>b=true/\cS ⟨[(0,v)],s.b⟩ ⟨[(0,pv)],putB S u⟩ | none=>False)
   | _,s=>(match A.pan with | some (b,_,_)=>b=false | none=>True)/\rX (mK C.tbl s fn.results.toList) s A.val (putB S A.upd)
end Go.AL
end
