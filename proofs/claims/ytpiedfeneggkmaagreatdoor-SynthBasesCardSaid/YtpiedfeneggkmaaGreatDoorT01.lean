/- The layer: Go code as conditions, and that they are sound. No condition. -/
import Derived.KernelRfl
import Derived.Laws.AppendOwn
import Derived.Laws.CopyRow
import Derived.Laws.StructEq
import Derived.Lib.FrozenHead
import Derived.Orders
set_option linter.all false
set_option maxRecDepth 100000
def vV:=@List.getElem?_eq_getElem
def vW:=@Bool.and_eq_true
def vX:=@List.getElem?_eq_none
def vY:=@Go.Result.andThen_ok
def vZ:=@List.getD_eq_getElem?_getD
def w4:=@Nat.lt_or_ge
def w5:=@if_neg
def w6:=@List.getElem?_append_left
def w7:=@Go.Sem.run_bind
def w8:=@List.getElem?_append_right
def w9:=@Array.getD_eq_getD_getElem?
def wa:=@List.mem_cons_of_mem
def wb:=@decide_eq_true_eq
def wc:=@Bool.not_eq_true'
def we:=@Option.map_eq_some_iff
def wg:=@Array.getElem?_toList
def wh:=@if_pos
def wi:=@List.eq_nil_of_length_eq_zero
def wj:=@Nat.le_refl
def wk:=@List.all_eq_true
def wm:=@Nat.eq_of_beq_eq_true
def wo:=@List.length_cons
def wq:=@List.mem_of_getElem?
def wu:=@List.map_cons
def wv:=@List.getElem?_take
def wx:=@List.getElem?_map
def wy:=@Go.Sem.run_pure
def wz:=@List.mem_map
def wA:=@if_false
def wB:=@List.contains_eq_mem
def wC:=@List.mem_cons
def wD:=@Nat.add_mul
def wE:=@Go.run_underlying
def wF:=@decide_eq_false_iff_not
def wG:=@beq_iff_eq
def wH:=@Option.some.inj
def wI:=@List.mem_filter
def wJ:=@List.append_assoc
def wK:=@List.mem_cons_self
def wL:=@List.getElem?_eq_some_iff
def wM:=@Nat.mul_le_mul_right
def wN:=@Option.getD_some
def wO:=@List.getElem?_drop
def wP:=@Nat.zero_le
def wQ:=@Array.ext'
def wR:=@if_true
def wS:=@Go.Value.slice.injEq
def wT:=@Go.setRow_other
def wU:=@List.getElem?_toArray
def wV:=@Option.map_some
def wW:=@Array.getElem?_eq_none
def wX:=@Bool.false_eq_true
def wY:=@List.cons.injEq
def wZ:=@List.nil_append
def x9:=@List.mem_append
def xa:=@Bool.or_eq_true
def xb:=@List.cons_append
def xc:=@Array.getElem?_eq_getElem
def xe:=@Array.getElem?_modify
def xf:=@Nat.zero_add
def xg:=@List.length_nil
def xh:=@and_true
def xi:=@Array.toArray_toList
def xj:=@List.mem_flatMap
def xk:=@List.drop_length
def xl:=@Nat.mul_le_mul_left
def xm:=@List.take_succ_cons
def xn:=@Nat.add_assoc
def xo:=@List.getElem?_of_mem
def xp:=@List.getElem?_cons_zero
def xq:=@congrArg
def xr:=@Array.length_toList
def xt:=@beq_eq_false_iff_ne
def xu:=@Array.getElem?_eq_some_iff
def xw:=@List.mem_range
def xx:=@List.pairwise_iff_getElem
def xy:=@Nat.add_zero
def xz:=@true_and
def xA:=@List.size_toArray
def xB:=@Nat.le_trans
def xC:=@Array.replicate_succ
def xD:=@Array.replicate_zero
def xE:=@Go.Addr.mk.injEq
def xF:=@List.drop_succ_cons
def xG:=@Go.wp_mono
def xH:=@List.append_toArray
def xI:=@List.drop_zero
def xJ:=@List.not_mem_nil
def xK:=@List.take_append_of_le_length
def xL:=@List.length_append
def xM:=@List.take_of_length_le
def xN:=@Classical.em
def xO:=@List.append_nil
def xP:=@List.length_map
def xQ:=@Array.mem_iff_getElem
def xR:=@List.flatMap_cons
def xS:=@List.push_toArray
def xT:=@Int.toNat_natCast
def xU:=@Array.mem_toList_iff
def xV:=@List.nodup_iff_pairwise_ne
def xW:=@Array.getElem?_append_left
def xX:=@Nat.mul_comm
def xY:=@Nat.sub_zero
def xZ:=@beq_self_eq_true
def y5:=@List.drop_eq_getElem_cons
def y7:=@Array.getElem?_push
def y8:=@List.map_congr_left
def y9:=@Array.toList_filter
def yb:=@Nat.one_mul
def ye:=@Nat.add_sub_cancel_left
def yf:=@List.getElem?_cons_succ
def yg:=@List.set_eq_take_append_cons_drop
def yh:=@List.mapM_toArray
def yi:=@not_true_eq_false
def yj:=@List.ext_getElem?
def yk:=@Go.size_zeroCells
def yl:=@List.length_singleton
def ym:=@List.cons_lt_cons_iff
def yn:=@List.getElem_mem
def yo:=@Nat.blt_eq
def yp:=@Go.wp_region
def yq:=@Prod.mk.injEq
def yr:=@List.mem_iff_getElem
def yt:=@List.getElem?_append
def yu:=@Nat.div_lt_of_lt_mul
def yw:=@Go.MapKept.run_checkKey
def yx:=@Bool.or_eq_false_iff
def yy:=@Option.map_none
def yz:=@List.foldl_cons
def yA:=@Go.run_firstCells_some
def yB:=@List.map_eq_flatMap
def yC:=@List.filterMap_cons
def yD:=@Array.contains_push
def yE:=@List.length_pos_iff
def yF:=@Nat.ble_eq
def yG:=@Go.run_storeCells_atF
def yH:=@Go.run_append_nil
def yI:=@Nat.eq_zero_or_pos
def yJ:=@List.pairwise_cons
def yK:=@List.take_zero
def yL:=@Nat.lt_of_lt_of_le
def yM:=@Function.comp_def
def yN:=@Nat.mul_one
def yO:=@Array.all_eq_true
def yP:=@not_or
def yQ:=@Go.wp_seq
def yR:=@List.map_nil
def yS:=@decide_false
def yT:=@and_self
def yU:=@Ne.symm
theorem Xr{p:Prop}(h:p:=by repeat (first|exact trivial|refine⟨by first|rfl|trivial,?_⟩)):p:=h
theorem Xo{p:Prop}[Decidable p](h:decide p=true):p:=of_decide_eq_true h
theorem Xd{p:Prop}[Decidable p](h:p):decide p=true:=decide_eq_true h
theorem Xt{P:Go.Program}{k:Nat}{f g:Go.Func}(h:P.funcs[k]?=some f)(e:f=g:=by kernel_rfl):P.funcs[k]?=some g:=h.trans (xq some e)
theorem Xs{Y:Type _}(a b:Y):(some a=some b)=(a=b):=Option.some.injEq a b
theorem Xf{p:Prop}[Decidable p](h:¬p):decide p=false:=decide_eq_false h
noncomputable section
namespace Go.AL
abbrev Str:=List UInt8
structure Shape where
 kind:Int
 pkg:Str
 name:Str
 names:List Str
 parts:List Shape
instance:Inhabited Shape:=⟨⟨0,[],[],[],[]⟩⟩
structure Item where
 kind:Int
 name:Str
 shape:Shape
instance:Inhabited Item:=⟨⟨0,[],default⟩⟩
structure Change where
 kind:Int
 name:Str
instance:Inhabited Change:=⟨⟨0,[]⟩⟩
structure Tokn where
 kind:Int
 text:Str
 pos:Int
instance:Inhabited Tokn:=⟨⟨0,[],0⟩⟩
structure Flt where
 err:Int
 pos:Int
instance:Inhabited Flt:=⟨⟨0,0⟩⟩
structure Trm where
 kind:Int
 pkg:Str
 name:Str
 n:Int
 names:List Str
 vars:List Str
 shapes:List Shape
 parts:List Trm
 pos:Int
instance:Inhabited Trm:=⟨⟨0,[],[],0,[],[],[],[],0⟩⟩
structure Vers where
 major:Int
 minor:Int
 patch:Int
 pre:Str
instance:Inhabited Vers:=⟨⟨0,0,0,[]⟩⟩
structure Bnd where
 op:Int
 v:Vers
instance:Inhabited Bnd:=⟨⟨0,default⟩⟩
structure Impt where
 name:Str
 pin:Vers
 range:List Bnd
 pos:Int
instance:Inhabited Impt:=⟨⟨[],default,[],0⟩⟩
structure Dcl where
 kind:Int
 name:Str
 shape:Shape
 term:Trm
 pos:Int
instance:Inhabited Dcl:=⟨⟨0,[],default,default,0⟩⟩
structure Modu where
 name:Str
 imports:List Impt
 decls:List Dcl
 exports:List Str
 pos:Int
instance:Inhabited Modu:=⟨⟨[],[],[],[],0⟩⟩
structure Bndg where
 pkg:Str
 name:Str
 shape:Shape
instance:Inhabited Bndg:=⟨⟨[],[],default⟩⟩
structure Envt where
 self:Str
 types:List Bndg
 values:List Bndg
 own:List Bndg
instance:Inhabited Envt:=⟨⟨[],[],[],[]⟩⟩
structure Depd where
 name:Str
 items:List Item
instance:Inhabited Depd:=⟨⟨[],[]⟩⟩
structure Vlu where
 kind:Int
 n:Int
 pkg:Str
 text:Str
 names:List Str
 parts:List Vlu
instance:Inhabited Vlu:=⟨⟨0,0,[],[],[],[]⟩⟩
structure Cel where
 name:Str
 value:Vlu
instance:Inhabited Cel:=⟨⟨[],default⟩⟩
structure Opn where
 kind:Int
 n:Int
 name:Str
 names:List Str
 tos:List Int
 pos:Int
instance:Inhabited Opn:=⟨⟨0,0,[],[],[],0⟩⟩
structure Chnk where
 args:Int
 ops:List Opn
instance:Inhabited Chnk:=⟨⟨0,[]⟩⟩
structure Usg where
 pkg:Str
 name:Str
instance:Inhabited Usg:=⟨⟨[],[]⟩⟩
structure Nam where
 pkg:Str
 name:Str
 deriving DecidableEq
instance:Inhabited Nam:=⟨⟨[],[]⟩⟩
structure Stt where
 things:Int
 names:Int
instance:Inhabited Stt:=⟨⟨0,0⟩⟩
structure Par where
 toks:List Tokn
 pos:Int
 err:Int
 fat:Int
instance:Inhabited Par:=⟨⟨[],0,0,0⟩⟩
structure Rstt where
 known:Bool
 things:Int
 names:Int
instance:Inhabited Rstt:=⟨⟨false,0,0⟩⟩
inductive SN where
 |shape|item|change|token|fault|term|version|bound|imp|decl|modu|bind|env|dep|val|cell|op|chunk|usg|nm|stt|par|rstt
 deriving DecidableEq
inductive Ty where
 |int (k:IntKind)|bool|str|lst (t:Ty)|st (n:SN)|pt (n:SN)
 deriving DecidableEq
@[reducible] def SD:SN->Type
 |.shape=>Shape
 |.item=>Item
 |.change=>Change
 |.token=>Tokn
 |.fault=>Flt
 |.term=>Trm
 |.version=>Vers
 |.bound=>Bnd
 |.imp=>Impt
 |.decl=>Dcl
 |.modu=>Modu
 |.bind=>Bndg
 |.env=>Envt
 |.dep=>Depd
 |.val=>Vlu
 |.cell=>Cel
 |.op=>Opn
 |.chunk=>Chnk
 |.usg=>Usg
 |.nm=>Nam
 |.stt=>Stt
 |.par=>Par
 |.rstt=>Rstt
@[reducible] def den:Ty->Type
 |.int _=>Int
 |.bool=>Bool
 |.str=>Str
 |.lst t=>List (den t)
 |.st n=>SD n
 |.pt n=>Option (SD n)
def dfl:(I:Ty)->den I
 |.int _=>(0:Int)
 |.bool=>false
 |.str=>([]:Str)
 |.lst _=>[]
 |.pt _=>none
 |.st .shape=>(default:Shape)
 |.st .item=>(default:Item)
 |.st .change=>(default:Change)
 |.st .token=>(default:Tokn)
 |.st .fault=>(default:Flt)
 |.st .term=>(default:Trm)
 |.st .version=>(default:Vers)
 |.st .bound=>(default:Bnd)
 |.st .imp=>(default:Impt)
 |.st .decl=>(default:Dcl)
 |.st .modu=>(default:Modu)
 |.st .bind=>(default:Bndg)
 |.st .env=>(default:Envt)
 |.st .dep=>(default:Depd)
 |.st .val=>(default:Vlu)
 |.st .cell=>(default:Cel)
 |.st .op=>(default:Opn)
 |.st .chunk=>(default:Chnk)
 |.st .usg=>(default:Usg)
 |.st .nm=>(default:Nam)
 |.st .stt=>(default:Stt)
 |.st .par=>(default:Par)
 |.st .rstt=>(default:Rstt)
inductive AV where
 |undef
 |int (k:IntKind) (n:Int)
 |bool (b:Bool)
 |str (s:Str)
 |lst (I:Ty) (xs:List (den I)) (o:Option Nat)
 |nils
 |ptr (id off:Nat)
 |cptr (c:AV)
 |nilp
 |pt (n:SN) (x:Option (SD n))
 |st (n:SN) (x:SD n)
 |agg (cs:List AV)
 |tup (vs:List AV)
 |fn (f:Nat) (cs:List AV)
 |row (I:Ty) (xs:List (den I))
 |arr (id n w:Nat)
 |aptr (id i w off:Nat)
 |map (id:Nat)
 |bptr (id:Nat)
 |iface (t:Nat) (a:AV)
 |nilif
 |nilm
 |lstp (I:Ty) (xs:List (den I)) (k:Nat)
 |tptr (I:Ty) (n k:Nat)
instance:Inhabited AV:=⟨.undef⟩
def bC(x:Shape):List AV:=.int .i64 x.kind::(.str x.pkg::(.str x.name::(.lst .str x.names none::(.lst (.st .shape) x.parts none::[]))))
def dE(x:Item):List AV:=.int .i64 x.kind::(.str x.name::(bC x.shape++[]))
def cr(x:Change):List AV:=.int .i64 x.kind::(.str x.name::[])
def cK(x:Tokn):List AV:=.int .i64 x.kind::(.str x.text::(.int .i64 x.pos::[]))
def cM(x:Flt):List AV:=.int .i64 x.err::(.int .i64 x.pos::[])
def cN(x:Trm):List AV:=.int .i64 x.kind::(.str x.pkg::(.str x.name::(.int .i64 x.n::(.lst .str x.names none::(.lst .str x.vars none::(.lst (.st .shape) x.shapes none::(.lst (.st .term) x.parts none::(.int .i64 x.pos::[]))))))))
def bn(x:Vers):List AV:=.int .i64 x.major::(.int .i64 x.minor::(.int .i64 x.patch::(.str x.pre::[])))
def cO(x:Bnd):List AV:=.int .i64 x.op::(bn x.v++[])
def eC(x:Impt):List AV:=.str x.name::(bn x.pin++(.lst (.st .bound) x.range none::(.int .i64 x.pos::[])))
def dF(x:Dcl):List AV:=.int .i64 x.kind::(.str x.name::(bC x.shape++(cN x.term++(.int .i64 x.pos::[]))))
def dG(x:Modu):List AV:=.str x.name::(.lst (.st .imp) x.imports none::(.lst (.st .decl) x.decls none::(.lst .str x.exports none::(.int .i64 x.pos::[]))))
def dH(x:Bndg):List AV:=.str x.pkg::(.str x.name::(bC x.shape++[]))
def eD(x:Envt):List AV:=.str x.self::(.lst (.st .bind) x.types none::(.lst (.st .bind) x.values none::(.lst (.st .bind) x.own none::[])))
def eE(x:Depd):List AV:=.str x.name::(.lst (.st .item) x.items none::[])
def dQ(x:Vlu):List AV:=.int .i64 x.kind::(.int .i64 x.n::(.str x.pkg::(.str x.text::(.lst .str x.names none::(.lst (.st .val) x.parts none::[])))))
def dI(x:Cel):List AV:=.str x.name::(dQ x.value++[])
def gx(x:Opn):List AV:=.int .i64 x.kind::(.int .i64 x.n::(.str x.name::(.lst .str x.names none::(.lst (.int .i64) x.tos none::(.int .i64 x.pos::[])))))
def cP(x:Chnk):List AV:=.int .i64 x.args::(.lst (.st .op) x.ops none::[])
def eF(x:Usg):List AV:=.str x.pkg::(.str x.name::[])
def dA(x:Nam):List AV:=.str x.pkg::(.str x.name::[])
def eG(x:Stt):List AV:=.int .i64 x.things::(.int .i64 x.names::[])
def eH(x:Par):List AV:=.lst (.st .token) x.toks none::(.int .i64 x.pos::(.int .i64 x.err::(.int .i64 x.fat::[])))
def dJ(x:Rstt):List AV:=.bool x.known::(.int .i64 x.things::(.int .i64 x.names::[]))
def cells:(I:Ty)->den I->List AV
 |.int k,n=>[.int k n]
 |.bool,b=>[.bool b]
 |.str,s=>[.str s]
 |.lst t,l=>[.lst t l none]
 |.pt n,x=>[.pt n x]
 |.st .shape,x=>bC x
 |.st .item,x=>dE x
 |.st .change,x=>cr x
 |.st .token,x=>cK x
 |.st .fault,x=>cM x
 |.st .term,x=>cN x
 |.st .version,x=>bn x
 |.st .bound,x=>cO x
 |.st .imp,x=>eC x
 |.st .decl,x=>dF x
 |.st .modu,x=>dG x
 |.st .bind,x=>dH x
 |.st .env,x=>eD x
 |.st .dep,x=>eE x
 |.st .val,x=>dQ x
 |.st .cell,x=>dI x
 |.st .op,x=>gx x
 |.st .chunk,x=>cP x
 |.st .usg,x=>eF x
 |.st .nm,x=>dA x
 |.st .stt,x=>eG x
 |.st .par,x=>eH x
 |.st .rstt,x=>dJ x
def a8:Ty->Nat
 |.st .shape=>5
 |.st .item=>7
 |.st .change=>2
 |.st .token=>3
 |.st .fault=>2
 |.st .term=>9
 |.st .version=>4
 |.st .bound=>5
 |.st .imp=>7
 |.st .decl=>17
 |.st .modu=>5
 |.st .bind=>7
 |.st .env=>4
 |.st .dep=>2
 |.st .val=>6
 |.st .cell=>7
 |.st .op=>6
 |.st .chunk=>2
 |.st .usg=>2
 |.st .nm=>2
 |.st .stt=>2
 |.st .par=>4
 |.st .rstt=>3
 |_=>1
def fN(n m:SN)(x:SD n):Option (SD m):=if h:n=m then some (h ▸ x)else none
def dc(I M:Ty)(xs:List (den I)):Option (List (den M)):=if h:I=M then some (h ▸ xs)else none
def asInt(k:IntKind):AV->Option Int
 |.int k' n=>if k'=k then some n else none
 |_=>none
def jK:AV->Option Bool
 |.bool b=>some b
 |_=>none
def bB:AV->Option Str
 |.str s=>some s
 |_=>none
def bP(M:Ty):AV->Option (List (den M))
 |.lst I xs _=>dc I M xs
 |.nils=>some []
 |_=>none
def je(n m:SN)(x:Option (SD n)):Option (Option (SD m)):=if h:n=m then some (h ▸ x)else none
def uX(n:SN):AV->Option (Option (SD n))
 |.pt m x=>je m n x
 |.nilp=>some none
 |.cptr (.st m x)=>je m n (some x)
 |_=>none
def dK:List AV->Option Shape
 |[c0,c1,c2,c3,c4]=>
  match asInt .i64 c0,bB c1,bB c2,bP .str c3,bP (.st .shape) c4 with
  |some x0,some x1,some x2,some x3,some x4=>some ⟨x0,x1,x2,x3,x4⟩
  |_,_,_,_,_=>none
 |_=>none
def jY:List AV->Option Item
 |[c0,c1,c2,c3,c4,c5,c6]=>
  match asInt .i64 c0,bB c1,dK [c2,c3,c4,c5,c6]with
  |some x0,some x1,some x2=>some ⟨x0,x1,x2⟩
  |_,_,_=>none
 |_=>none
def hD:List AV->Option Change
 |[c0,c1]=>
  match asInt .i64 c0,bB c1 with
  |some x0,some x1=>some ⟨x0,x1⟩
  |_,_=>none
 |_=>none
def iL:List AV->Option Tokn
 |[c0,c1,c2]=>
  match asInt .i64 c0,bB c1,asInt .i64 c2 with
  |some x0,some x1,some x2=>some ⟨x0,x1,x2⟩
  |_,_,_=>none
 |_=>none
def iM:List AV->Option Flt
 |[c0,c1]=>
  match asInt .i64 c0,asInt .i64 c1 with
  |some x0,some x1=>some ⟨x0,x1⟩
  |_,_=>none
 |_=>none
def ik:List AV->Option Trm
 |[c0,c1,c2,c3,c4,c5,c6,c7,c8]=>
  match asInt .i64 c0,bB c1,bB c2,asInt .i64 c3,bP .str c4,bP .str c5,bP (.st .shape) c6,bP (.st .term) c7,asInt .i64 c8 with
  |some x0,some x1,some x2,some x3,some x4,some x5,some x6,some x7,some x8=>some ⟨x0,x1,x2,x3,x4,x5,x6,x7,x8⟩
  |_,_,_,_,_,_,_,_,_=>none
 |_=>none
def de:List AV->Option Vers
 |[c0,c1,c2,c3]=>
  match asInt .i64 c0,asInt .i64 c1,asInt .i64 c2,bB c3 with
  |some x0,some x1,some x2,some x3=>some ⟨x0,x1,x2,x3⟩
  |_,_,_,_=>none
 |_=>none
def iN:List AV->Option Bnd
 |[c0,c1,c2,c3,c4]=>
  match asInt .i64 c0,de [c1,c2,c3,c4]with
  |some x0,some x1=>some ⟨x0,x1⟩
  |_,_=>none
 |_=>none
def ml:List AV->Option Impt
 |[c0,c1,c2,c3,c4,c5,c6]=>
  match bB c0,de [c1,c2,c3,c4],bP (.st .bound) c5,asInt .i64 c6 with
  |some x0,some x1,some x5,some x6=>some ⟨x0,x1,x5,x6⟩
  |_,_,_,_=>none
 |_=>none
def jZ:List AV->Option Dcl
 |[c0,c1,c2,c3,c4,c5,c6,c7,c8,c9,c10,c11,c12,c13,c14,c15,c16]=>
  match asInt .i64 c0,bB c1,dK [c2,c3,c4,c5,c6],ik [c7,c8,c9,c10,c11,c12,c13,c14,c15],asInt .i64 c16 with
  |some x0,some x1,some x2,some x7,some x16=>some ⟨x0,x1,x2,x7,x16⟩
  |_,_,_,_,_=>none
 |_=>none
def k6:List AV->Option Modu
 |[c0,c1,c2,c3,c4]=>
  match bB c0,bP (.st .imp) c1,bP (.st .decl) c2,bP .str c3,asInt .i64 c4 with
  |some x0,some x1,some x2,some x3,some x4=>some ⟨x0,x1,x2,x3,x4⟩
  |_,_,_,_,_=>none
 |_=>none
def k7:List AV->Option Bndg
 |[c0,c1,c2,c3,c4,c5,c6]=>
  match bB c0,bB c1,dK [c2,c3,c4,c5,c6]with
  |some x0,some x1,some x2=>some ⟨x0,x1,x2⟩
  |_,_,_=>none
 |_=>none
def mm:List AV->Option Envt
 |[c0,c1,c2,c3]=>
  match bB c0,bP (.st .bind) c1,bP (.st .bind) c2,bP (.st .bind) c3 with
  |some x0,some x1,some x2,some x3=>some ⟨x0,x1,x2,x3⟩
  |_,_,_,_=>none
 |_=>none
def mn:List AV->Option Depd
 |[c0,c1]=>
  match bB c0,bP (.st .item) c1 with
  |some x0,some x1=>some ⟨x0,x1⟩
  |_,_=>none
 |_=>none
def jL:List AV->Option Vlu
 |[c0,c1,c2,c3,c4,c5]=>
  match asInt .i64 c0,asInt .i64 c1,bB c2,bB c3,bP .str c4,bP (.st .val) c5 with
  |some x0,some x1,some x2,some x3,some x4,some x5=>some ⟨x0,x1,x2,x3,x4,x5⟩
  |_,_,_,_,_,_=>none
 |_=>none
def k8:List AV->Option Cel
 |[c0,c1,c2,c3,c4,c5,c6]=>
  match bB c0,jL [c1,c2,c3,c4,c5,c6]with
  |some x0,some x1=>some ⟨x0,x1⟩
  |_,_=>none
 |_=>none
def oO:List AV->Option Opn
 |[c0,c1,c2,c3,c4,c5]=>
  match asInt .i64 c0,asInt .i64 c1,bB c2,bP .str c3,bP (.int .i64) c4,asInt .i64 c5 with
  |some x0,some x1,some x2,some x3,some x4,some x5=>some ⟨x0,x1,x2,x3,x4,x5⟩
  |_,_,_,_,_,_=>none
 |_=>none
def iO:List AV->Option Chnk
 |[c0,c1]=>
  match asInt .i64 c0,bP (.st .op) c1 with
  |some x0,some x1=>some ⟨x0,x1⟩
  |_,_=>none
 |_=>none
def mo:List AV->Option Usg
 |[c0,c1]=>
  match bB c0,bB c1 with
  |some x0,some x1=>some ⟨x0,x1⟩
  |_,_=>none
 |_=>none
def oP:List AV->Option Nam
 |[c0,c1]=>
  match bB c0,bB c1 with
  |some x0,some x1=>some ⟨x0,x1⟩
  |_,_=>none
 |_=>none
def mq:List AV->Option Stt
 |[c0,c1]=>
  match asInt .i64 c0,asInt .i64 c1 with
  |some x0,some x1=>some ⟨x0,x1⟩
  |_,_=>none
 |_=>none
def mr:List AV->Option Par
 |[c0,c1,c2,c3]=>
  match bP (.st .token) c0,asInt .i64 c1,asInt .i64 c2,asInt .i64 c3 with
  |some x0,some x1,some x2,some x3=>some ⟨x0,x1,x2,x3⟩
  |_,_,_,_=>none
 |_=>none
def k9:List AV->Option Rstt
 |[c0,c1,c2]=>
  match jK c0,asInt .i64 c1,asInt .i64 c2 with
  |some x0,some x1,some x2=>some ⟨x0,x1,x2⟩
  |_,_,_=>none
 |_=>none
def lu:(I:Ty)->List AV->Option (den I)
 |.int k,[a]=>asInt k a
 |.bool,[a]=>jK a
 |.str,[a]=>bB a
 |.lst t,[a]=>bP t a
 |.pt n,[a]=>uX n a
 |.st .shape,cs=>dK cs
 |.st .item,cs=>jY cs
 |.st .change,cs=>hD cs
 |.st .token,cs=>iL cs
 |.st .fault,cs=>iM cs
 |.st .term,cs=>ik cs
 |.st .version,cs=>de cs
 |.st .bound,cs=>iN cs
 |.st .imp,cs=>ml cs
 |.st .decl,cs=>jZ cs
 |.st .modu,cs=>k6 cs
 |.st .bind,cs=>k7 cs
 |.st .env,cs=>mm cs
 |.st .dep,cs=>mn cs
 |.st .val,cs=>jL cs
 |.st .cell,cs=>k8 cs
 |.st .op,cs=>oO cs
 |.st .chunk,cs=>iO cs
 |.st .usg,cs=>mo cs
 |.st .nm,cs=>oP cs
 |.st .stt,cs=>mq cs
 |.st .par,cs=>mr cs
 |.st .rstt,cs=>k9 cs
 |_,_=>none
def tP:Ty->Bool
 |.st _=>true
 |_=>false
def inj:(I:Ty)->den I->AV
 |.int k,n=>.int k n
 |.bool,b=>.bool b
 |.str,s=>.str s
 |.lst t,l=>.lst t l none
 |.pt n,x=>.pt n x
 |.st n,x=>.st n x
def aH(I:Ty)(xs:List (den I)):List AV:=xs.flatMap (cells I)
def a7:AV->List AV
 |.agg cs=>cs
 |.st n x=>cells (.st n) x
 |.row I xs=>aH I xs
 |a=>[a]
def arg:(I:Ty)->AV->Option (den I)
 |.st m,.st n x=>fN n m x
 |.st m,.agg cs=>lu (.st m) cs
 |.st _,_=>none
 |I,a=>lu I [a]
def fO:(n:SN)->Nat->SD n->Option AV
 |.item,2,x=>some (.st .shape (Item.shape x))
 |.bound,1,x=>some (.st .version (Bnd.v x))
 |.imp,1,x=>some (.st .version (Impt.pin x))
 |.decl,2,x=>some (.st .shape (Dcl.shape x))
 |.decl,7,x=>some (.st .term (Dcl.term x))
 |.bind,2,x=>some (.st .shape (Bndg.shape x))
 |.cell,1,x=>some (.st .val (Cel.value x))
 |_,_,_=>none
def s5:(n:SN)->Nat->SD n->AV->Option AV
 |.item,2,x,.st .shape y=>some (.st .item ({(show Item from x)with shape:=y}:Item))
 |.bound,1,x,.st .version y=>some (.st .bound ({(show Bnd from x)with v:=y}:Bnd))
 |.imp,1,x,.st .version y=>some (.st .imp ({(show Impt from x)with pin:=y}:Impt))
 |.decl,2,x,.st .shape y=>some (.st .decl ({(show Dcl from x)with shape:=y}:Dcl))
 |.decl,7,x,.st .term y=>some (.st .decl ({(show Dcl from x)with term:=y}:Dcl))
 |.bind,2,x,.st .shape y=>some (.st .bind ({(show Bndg from x)with shape:=y}:Bndg))
 |.cell,1,x,.st .val y=>some (.st .cell ({(show Cel from x)with value:=y}:Cel))
 |_,_,_,_=>none
inductive SObj where
 |box (c:AV)
 |tail (I:Ty) (n:Nat)
 |map (U I:Ty) (m:List (den U×den I))
 |bld (t u:Nat) (l:Str)
 |tailp (I:Ty) (n:Nat) (x:den I)
structure St where
 t:List (Nat×AV)
 b:List (Nat×SObj)
def aE(l:List (Nat×AV))(i:Nat):AV:=List.rec .undef (fun p _ ih=>Bool.rec ih p.2 (Nat.beq p.1 i)) l
def fb(l:List (Nat×AV))(i:Nat)(v:AV):List (Nat×AV):=List.rec [(i,v)] (fun p r ih=>Bool.rec (p::ih) ((i,v)::r) (Nat.beq p.1 i)) l
def ae(l:List (Nat×SObj))(i:Nat):Option SObj:=List.rec none (fun p _ ih=>Bool.rec ih (some p.2) (Nat.beq p.1 i)) l
def jF(l:List (Nat×SObj))(i:Nat)(v:SObj):List (Nat×SObj):=List.rec [(i,v)] (fun p r ih=>Bool.rec (p::ih) ((i,v)::r) (Nat.beq p.1 i)) l
theorem il{Y:Type}{j i:Nat}(x y:Y):(Bool.rec y x (Nat.beq j i):Y)=if j ==i then x else y:=by
 by_cases h:j=i
 ·subst h;simp
 ·have h':Nat.beq j i=false:=by
   cases hb:Nat.beq j i with|false=>rfl|true=>exact absurd (wm hb) h
  rw[h'];simp[h]
theorem bD(i:Nat):aE [] i=.undef:=rfl
theorem bl(j:Nat)(v:AV)(r:List (Nat×AV))(i:Nat):aE ((j,v)::r) i=if j ==i then v else aE r i:=il _ _
theorem nz(i:Nat)(v:AV):fb [] i v=[(i,v)]:=rfl
theorem lM(j:Nat)(u:AV)(r:List (Nat×AV))(i:Nat)(v:AV):fb ((j,u)::r) i v=if j ==i then(i,v)::r else(j,u)::fb r i v:=il _ _
theorem aw(i:Nat):ae [] i=none:=rfl
theorem aq(j:Nat)(v:SObj)(r:List (Nat×SObj))(i:Nat):ae ((j,v)::r) i=if j ==i then some v else ae r i:=il _ _
theorem im(i:Nat)(v:SObj):jF [] i v=[(i,v)]:=rfl
theorem gy(j:Nat)(u:SObj)(r:List (Nat×SObj))(i:Nat)(v:SObj):jF ((j,u)::r) i v=if j ==i then(i,v)::r else(j,u)::jF r i v:=il _ _
inductive TI where
 |int (k:IntKind)|bool|str|slice (e:Nat)|ptr (e:Nat)|strct (e:Bool) (fs:List (Nat×Nat))|map (k e:Nat)|iface|arr (e n:Nat)|other
structure TR where
 ti:TI
 size:Nat
 bytes:Nat
 zero:List AV
 ty:Option Ty
structure Ans where
 ob:Option Prop
 pan:Option (Bool×AV×List (Nat×SObj))
 val:AV
 upd:List (Nat×SObj)
def Ans.ret(v:AV):Ans:=⟨none,none,v,[]⟩
structure Cfg where
 tbl:List (Nat×TR)
 spec:Nat->List AV->List (Nat×SObj)->Option Ans
 keeps:Nat->Bool
 lends:Nat->List (Option Nat)
 pend:Nat->Bool:=fun _=>false
 rows:Nat->Bool:=fun _=>false
 same:Nat->Bool:=fun _=>false
def ak(l:List (Nat×TR))(t:Nat):Option TR:=List.rec none (fun p _ ih=>Bool.rec ih (some p.2) (Nat.beq p.1 t)) l
theorem lN(t:Nat):ak [] t=none:=rfl
theorem ka(j:Nat)(r:TR)(l:List (Nat×TR))(t:Nat):ak ((j,r)::l) t=if j ==t then some r else ak l t:=il _ _
def TR.isAgg(r:TR):Bool:=
 match r.ti with
 |.strct _ _=>true
 |.arr _ _=>true
 |_=>false
structure DP where
 p:Prop
 b:Bool
 h:b=true->p
abbrev dp(p:Prop)[h:Decidable p]:DP:=⟨p,decide p,fun e=>Xo e⟩
abbrev qg(p:Prop):DP:=⟨p,false,fun h=>by cases h⟩
structure Eff where
 ob:Option DP
 val:AV
 upd:List (Nat×SObj)
def Eff.pure(v:AV):Eff:=⟨none,v,[]⟩
def Eff.asks(e:Eff):Prop:=match e.ob with|none=>True|some d=>d.p
def inR(k:IntKind)(n:Int):Prop:=k.min<=n/\n<=k.max
instance (k:IntKind)(n:Int):Decidable (inR k n):=inferInstanceAs (Decidable (k.min<=n/\n<=k.max))
def tQ:IntKind->Nat
 |.i8=>127|.i16=>32767|.i32=>2147483647|.i64=>9223372036854775807
 |.u8=>255|.u16=>65535|.u32=>4294967295|.u64=>18446744073709551615
def qh:IntKind->Bool
 |.i8|.i16|.i32|.i64=>true
 |_=>false
def okC(k:IntKind):Int->Bool
 |.ofNat m=>Nat.ble m (tQ k)
 |.negSucc m=>if qh k then Nat.ble m (tQ k)else false
def cA{Y:Type}:List Y->Nat->Bool
 |[],0=>true
 |_::r,n+1=>cA r n
 |_,_=>false
def gM{Y:Type}:List Y->Nat->Bool
 |[],_=>true
 |_::r,n+1=>gM r n
 |_::_,0=>false
def nth{Y:Type}:List Y->Nat->Option Y
 |[],_=>none
 |a::_,0=>some a
 |_::r,n+1=>nth r n
def jf:List AV->Nat->Option (List AV)
 |_,0=>some []
 |a::r,n+1=>(match jf r n with|some l=>some (a::l)|none=>none)
 |[],_+1=>none
def gN:List AV->Nat->Option (List AV)
 |l,0=>some l
 |_::r,n+1=>gN r n
 |[],_+1=>none
def aW:Value->AV
 |.int k n=>if okC k n then .int k n else .undef
 |.bool b=>.bool b
 |.string s=>if gM s.data.toList 100000 then .str s.data.toList else .undef
 |.slice none 0 0=>.nils
 |.pointer none=>.nilp
 |.nilIface=>.nilif
 |.map none=>.nilm
 |_=>.undef
def iq:Value->AV
 |.agg cs=>.agg (cs.toList.map aW)
 |v=>aW v
def opd(T:Nat->AV):Operand->AV
 |.tmp t=>T t
 |.const v=>iq v
 |.func f=>.fn f []
 |.global _=>.undef
def oQ(op:BinOp)(k:IntKind)(a b:Int):Option Eff:=
 match op with
 |.add=>some ⟨some (dp (inR k (a+b))),.int k (a+b),[]⟩
 |.sub=>some ⟨some (dp (inR k (a-b))),.int k (a-b),[]⟩
 |.mul=>some ⟨some (dp (inR k (a *b))),.int k (a *b),[]⟩
 |.quo=>some ⟨some (dp (b≠0/\inR k (a.tdiv b))),.int k (a.tdiv b),[]⟩
 |.rem=>some ⟨some (dp (b≠0/\inR k (a.tmod b))),.int k (a.tmod b),[]⟩
 |.eql=>some (.pure (.bool (decide (a=b))))
 |.neq=>some (.pure (.bool (!decide (a=b))))
 |.lss=>some (.pure (.bool (decide (a<b))))
 |.leq=>some (.pure (.bool (decide (a<=b))))
 |.gtr=>some (.pure (.bool (decide (b<a))))
 |.geq=>some (.pure (.bool (decide (b<=a))))
 |_=>none
def oR(op:BinOp)(a b:Str):Option Eff:=
 match op with
 |.add=>some ⟨some (dp (a.length+b.length<=9223372036854775807)),.str (a++b),[]⟩
 |.eql=>some (.pure (.bool (decide (a=b))))
 |.neq=>some (.pure (.bool (!decide (a=b))))
 |.lss=>some (.pure (.bool (Op.bytesLess a b)))
 | .leq=>some (.pure (.bool (Op.bytesLess a b||decide (a=b))))
 | .gtr=>some (.pure (.bool (!(Op.bytesLess a b||decide (a=b)))))
 |.geq=>some (.pure (.bool (!Op.bytesLess a b)))
 |_=>none
def mu(op:BinOp)(a b:Bool):Option Eff:=
 match op with
 |.eql=>some (.pure (.bool (a ==b)))
 |.neq=>some (.pure (.bool (!(a ==b))))
 |_=>none
def sub(cs:List AV)(off n:Nat):Option (List AV):=
 match gN cs off with
 |some cs=>jf cs n
 |none=>none
def bE(r:TR)(cs:List AV):Option AV:=
 if r.isAgg then some (.agg cs)else(match cs with|[c]=>some c|_=>none)
def fP:List AV->List AV->Option (List AV)
 |cs,[]=>some cs
 |_::cs,v::vs=>(match fP cs vs with|some l=>some (v::l)|none=>none)
 |[],_::_=>none
def splice:List AV->Nat->List AV->Option (List AV)
 |cs,0,vs=>fP cs vs
 |c::cs,n+1,vs=>(match splice cs n vs with|some l=>some (c::l)|none=>none)
 |[],_+1,_=>none
def fc:AV->Bool
 |.undef|.agg _|.tup _|.st _ _|.row _ _=>false
 |_=>true
def gO(r:TR)(c:AV)(off:Nat):Option AV:=
 match c,off,r.ty with
 |.st n x,0,some (.st m)=>
  if n=m then some (.st n x)else(match sub (a7 (.st n x)) 0 r.size with|some cs=>bE r cs|none=>none)
 |.st n x,o+1,some (.st m)=>
  (match fO n (o+1) x with
  |some (.st m' y)=>if m'=m then some (.st m' y)else none
  |_=>(match sub (a7 (.st n x)) (o+1) r.size with|some cs=>bE r cs|none=>none))
 |c,off,_=>(match sub (a7 c) off r.size with|some cs=>bE r cs|none=>none)
def mv(r:TR)(c:AV)(off:Nat)(v:AV):Option AV:=
 if(a7 v).all fc&&cA (a7 v) r.size then
  (match off with
  |0=>if cA (a7 c) r.size then some v else(match splice (a7 c) 0 (a7 v)with|some cs=>some (.agg cs)|none=>none)
  |o+1=>(match splice (a7 c) (o+1) (a7 v)with|some cs=>some (.agg cs)|none=>none))
 else none
def nA(fs:List (Nat×Nat))(size:Nat->Option Nat)(zero:List AV):List (Nat×AV)->Option (List AV)
 |[]=>some zero
 |(i,v)::r=>
  match nth fs i with
  |some (off,t)=>
   (match size t with
   |some n=>if(a7 v).all fc&&cA (a7 v) n then(match splice zero off (a7 v)with|some z=>nA fs size z r|none=>none)else none
   |none=>none)
  |none=>none
def kb(I:Ty)(i:Nat):List (Nat×AV)->Option (List (den I))
 |[]=>some []
 |(j,v)::r=>
  if j ==i then
   (match arg I v,kb I (i+1) r with
    |some x,some l=>some (x::l)
    |_,_=>none)
  else none
def jM(r:TR)(f:Nat):Option (Nat×Nat):=
 match r.ti with
 |.strct _ fs=>nth fs f
 |_=>none
def bnd(T:Nat->AV):Option Operand->Option (Option Int)
 |none=>some none
 |some x=>match opd T x with
  |.int .i64 n=>some (some n)
  |_=>none
def bM(s:Str):List Int:=s.map fun b=>(b.toNat:Int)
def jN(C:Cfg)(t:Nat)(dst:Nat)(x y:AV)(look:Nat->Option SObj):Option Eff:=
 match ak C.tbl t with
 |some ⟨.slice e,_,_,_,_⟩=>
  (match ak C.tbl e with
  |some re=>
   (match x,y with
   |.lst I xs (some k),.lst M ys _=>
    (match dc M I ys,look k with
    |some [z],some (.tail I' n)=>
     if I'=I/\re.ty=some I then
      some ⟨some (dp (xs.length=n/\(xs.length+1) *re.bytes<=140737488355328)),.lstp I xs k,[(k,.tailp I xs.length z)]⟩
     else none
    |_,_=>none)
   |.nils,.lst M [z] _=>
    (match look dst with
    |none=>if re.ty=some M then some ⟨some (dp (1 *re.bytes<=140737488355328)),.lstp M [] dst,[(dst,.tailp M 0 z)]⟩else none
    |_=>none)
   |_,_=>none)
  |none=>none)
 |_=>none
def mw(C:Cfg)(t:Nat)(dst:Nat)(x y:AV)(look:Nat->Option SObj):Option Eff:=
 match ak C.tbl t with
 |some ⟨.slice e,_,_,_,_⟩=>
  (match ak C.tbl e with
  |some re=>
   (match x,y with
   |.nils,.nils=>some (.pure .nils)
   |.lst I xs o,.nils=>some (.pure (.lst I xs o))
   |.lst I xs (some k),.lst M ys _=>
    (match dc M I ys,look k with
    |some ys,some (.tail I' n)=>
     if I'=I/\re.ty=some I then
      some ⟨some (dp (xs.length=n/\(xs.length+ys.length) *re.bytes<=140737488355328)),.lst I (xs++ys) (some k),[(k,.tail I (xs++ys).length)]⟩
     else none
    |_,_=>none)
   |.nils,.lst M ys _=>
    (match look dst with
    |none=>if re.ty=some M then some ⟨some (dp (ys.length *re.bytes<=140737488355328)),.lst M ys (some dst),[(dst,.tail M ys.length)]⟩else none
    |_=>none)
   |_,_=>none)
  |none=>none)
 |_=>none
def fe(xs:List Int):Str:=xs.map fun n=>UInt8.ofNat n.toNat
def jO(C:Cfg)(t t':Nat)(x:AV)(s:Str)(look:Nat->Option SObj):Option Eff:=
 match ak C.tbl t,ak C.tbl t' with
 |some ⟨.slice e,_,_,_,_⟩,some ⟨.str,_,_,_,_⟩=>
  (match ak C.tbl e with
  |some ⟨.int .u8,_,bytes,_,some (.int .u8)⟩=>
   (match x with
   |.lst (.int .u8) xs (some k)=>
    (match look k with
    |some (.tail (.int .u8) n)=>
     some ⟨some (dp (xs.length=n/\(xs.length+s.length) *bytes<=140737488355328)),.lst (.int .u8) (xs++bM s) (some k),[(k,.tail (.int .u8) (xs++bM s).length)]⟩
    |_=>none)
   |_=>none)
  |_=>none)
 |_,_=>none
def uI(C:Cfg)(s d:Nat)(x:AV):Option Eff:=
 match ak C.tbl s,ak C.tbl d,x with
 |some ⟨.slice e,_,_,_,_⟩,some ⟨.str,_,_,_,_⟩,.lst (.int .u8) xs _=>
  (match ak C.tbl e with
  |some ⟨.int .u8,_,_,_,some (.int .u8)⟩=>some (.pure (.str (fe xs)))
  |_=>none)
 |some ⟨.str,_,_,_,_⟩,some ⟨.slice e,_,_,_,_⟩,.str s=>
  (match ak C.tbl e with
  |some ⟨.int .u8,_,_,_,some (.int .u8)⟩=>some (.pure (.lst (.int .u8) (bM s) none))
  |_=>none)
 |_,_,_=>none
def ids:AV->List Nat
 |.ptr i _=>[i]
 |.lst _ _ (some i)=>[i]
 |.agg cs=>idsL cs
 |.tup cs=>idsL cs
 |.fn _ cs=>idsL cs
 |.cptr c=>ids c
 |.arr i _ _=>[i]
 |.aptr i _ _ _=>[i]
 |.map i=>[i]
 |.bptr i=>[i]
 |.iface _ a=>ids a
 |.lstp _ _ k=>[k]
 |.tptr _ _ k=>[k]
 |_=>[]
where idsL:List AV->List Nat
 |[]=>[]
 |a::r=>ids a++idsL r
def oS:SObj->List Nat
 |.box c=>ids c
 |_=>[]
mutual
def mapV(fp:Nat->Nat->Option (Nat×Nat))(fi ft:Nat->Option Nat):AV->Option AV
 |.ptr i o=>(match fp i o with|some (j,p)=>some (.ptr j p)|none=>none)
 |.lst I xs o=>(match o with|some k=>some (.lst I xs (ft k))|none=>some (.lst I xs none))
 |.cptr c=>(match mapV fp fi ft c with|some c=>some (.cptr c)|none=>none)
 |.agg cs=>(match mapVs fp fi ft cs with|some cs=>some (.agg cs)|none=>none)
 |.tup cs=>(match mapVs fp fi ft cs with|some cs=>some (.tup cs)|none=>none)
 |.fn f cs=>(match mapVs fp fi ft cs with|some cs=>some (.fn f cs)|none=>none)
 |.arr i n w=>(match fi i with|some j=>some (.arr j n w)|none=>none)
 |.aptr i n w o=>(match fi i with|some j=>some (.aptr j n w o)|none=>none)
 |.map i=>(match fi i with|some j=>some (.map j)|none=>none)
 |.bptr i=>(match fi i with|some j=>some (.bptr j)|none=>none)
 |.iface t a=>(match mapV fp fi ft a with|some a=>some (.iface t a)|none=>none)
 |.lstp _ _ _=>none
 |.tptr _ _ _=>none
 |a=>some a
def mapVs(fp:Nat->Nat->Option (Nat×Nat))(fi ft:Nat->Option Nat):List AV->Option (List AV)
 |[]=>some []
 |a::r=>(match mapV fp fi ft a,mapVs fp fi ft r with|some a,some r=>some (a::r)|_,_=>none)
end
abbrev bz:=Nat×Option (Nat×Nat)
def eI(look:Nat->Option SObj):Nat->List Nat->List Nat->List Nat
 |0,_,acc=>acc
 |_+1,[],acc=>acc
 |n+1,i::r,acc=>
  if acc.contains i then eI look n r acc
  else eI look n (r++(match look i with|some o=>oS o|none=>[])) (acc++[i])
def idx:List bz->Nat->Nat->Option (Nat×Option (Nat×Nat))
 |[],_,_=>none
 |(j,r)::l,i,k=>if j ==i then some (k,r)else idx l i (k+1)
def aP(i:Nat):Bool:=Nat.ble 900 i&&Nat.blt i 1000
def toP(L:List bz)(i o:Nat):Option (Nat×Nat):=
 match idx L i 900 with
 |some (k,none)=>some (k,o)
 |some (k,some (off,len))=>if Nat.ble off o&&Nat.blt o (off+len)then some (k,o-off)else none
 |none=>none
def toI(L:List bz)(i:Nat):Option Nat:=
 match idx L i 900 with
 |some (k,none)=>some k
 |_=>none
def nid(d k:Nat):Nat:=(k+1) *1000+d
def aI(L:List bz)(k:Nat):Option bz:=if Nat.ble 900 k then nth L (k-900)else none
def jg(L:List bz)(d k o:Nat):Option (Nat×Nat):=
 match aI L k with
 |some (i,none)=>some (i,o)
 |some (i,some (off,_))=>some (i,off+o)
 |none=>some (nid d k,o)
def dy(L:List bz)(d k:Nat):Option Nat:=
 match aI L k with
 |some (i,none)=>some i
 |some (_,some _)=>none
 |none=>some (nid d k)
def s6(c:AV)(off len:Nat):Option AV:=match sub (a7 c) off len with|some cs=>some (.agg cs)|none=>none
def s7(c:AV):Option (Nat×Nat)->Option AV
 |none=>some c
 |some (off,len)=>
  match c with
  |.st n x=>
   (match fO n off x with
   |some (.st m y)=>if a8 (.st m)=len then some (.st m y)else s6 (.st n x) off len
   |_=>s6 (.st n x) off len)
  |c=>s6 c off len
def tR(c:AV)(off:Nat)(d:AV):Option AV:=match splice (a7 c) off (a7 d)with|some cs=>some (.agg cs)|none=>none
def tS(c:AV)(r:Option (Nat×Nat))(d:AV):Option AV:=
 match r with
 |none=>some d
 |some (off,len)=>
  if cA (a7 d) len then
   (match c with
   |.st n x=>(match s5 n off x d with|some a=>some a|none=>tR (.st n x) off d)
   |c=>tR c off d)
  else none
def cC(L:List bz)(r:Option (Nat×Nat)):SObj->Option SObj
 |.box c=>
  (match s7 c r with
  |some c=>(match mapV (toP L) (toI L) (toI L) c with|some c=>some (.box c)|none=>none)
  |none=>none)
 |.tailp _ _ _=>none
 |o=>(match r with|none=>some o|some _=>none)
def ir(look:Nat->Option SObj)(L:List bz):List bz->Nat->Option (List (Nat×SObj))
 |[],_=>some []
 |(i,r)::l,k=>
  match look i with
  |some o=>(match cC L r o,ir look L l (k+1)with|some o,some l=>some ((k,o)::l)|_,_=>none)
  |none=>none
def dR(L:List bz)(d:Nat)(r:Option (Nat×Nat))(old:Option SObj):SObj->Option SObj
 |.box c=>
  (match mapV (jg L d) (dy L d) (dy L d) c with
  |some c=>(match old with|some (.box b)=>(match tS b r c with|some c=>some (.box c)|none=>none)|none=>some (.box c)|_=>none)
  |none=>none)
 |.tailp _ _ _=>none
 |o=>(match r with|none=>some o|some _=>none)
def fI(look:Nat->Option SObj)(L:List bz)(d:Nat):List (Nat×SObj)->Option (List (Nat×SObj))
 |[]=>some []
 |(k,o)::u=>
  match aI L k with
  |some (i,r)=>
   (match look i with
   |some old=>(match dR L d r (some old) o,fI look L d u with|some o,some u=>some ((i,o)::u)|_,_=>none)
   |none=>none)
  |none=>
   (match look (nid d k)with
   |none=>(match dR L d none none o,fI look L d u with|some o,some u=>some ((nid d k,o)::u)|_,_=>none)
   |some _=>none)
def cD(L:List bz)(d:Nat)(u:List (Nat×SObj)):List Nat:=
 u.filterMap fun x=>match aI L x.1 with|some _=>none|none=>some (nid d x.1)
def dz(S u:List (Nat×SObj)):List (Nat×SObj):=u++S.filter fun x=>!(u.map (·.1)).contains x.1
def oT(i:Nat):List AV->List (Option Nat)->Option (Nat×Nat)
 |.ptr j o::r,n::ns=>if j ==i then(match n with|some n=>some (o,n)|none=>none)else oT i r ns
 |_::r,_::ns=>oT i r ns
 |_,_=>none
def qi(look:Nat->Option SObj)(i:Nat):Bool:=match look i with|some (.box _)=>true|_=>false
structure CallR where
 foot:List Nat
 eff:Eff
 pan:Option (Bool×AV×List (Nat×SObj))
def aF:List Nat->Bool
 |[]=>true
 |a::r=>!r.contains a&&aF r
def cQ(C:Cfg)(f:Nat)(args:List AV)(look:Nat->Option SObj):List bz:=
 (eI look 64 (ids.idsL args) []).map fun i=>(i,if qi look i then oT i args (C.lends f)else none)
def qj(look:Nat->Option SObj)(L:List bz)(S:List (Nat×SObj))(d:Nat)(A:Ans):Option CallR:=
 match mapV (jg L d) (dy L d) (dy L d) A.val,fI look L d (dz S A.upd),aF (A.upd.map (·.1))with
 |some v,some u,true=>
  (match A.pan with
  |none=>some ⟨cD L d A.upd,⟨A.ob.map qg,v,u⟩,none⟩
  |some (b,pv,pu)=>
   (match mapV (jg L d) (dy L d) (dy L d) pv,fI look L d (dz S pu),aF (pu.map (·.1))with
   |some pv,some pu',true=>some ⟨cD L d A.upd++cD L d pu,⟨A.ob.map qg,v,u⟩,some (b,pv,pu')⟩
   |_,_,_=>none))
 |_,_,_=>none
def ff(keeps:Bool)(args:List AV):Option (List AV):=
 match keeps with
 |true=>some args
 |false=>mapVs (fun i o=>some (i,o)) some (fun _=>none) args
def s8(C:Cfg)(d:Nat)(f:Nat)(args:List AV)(look:Nat->Option SObj)(L:List bz):Option CallR:=
 match aF (L.map (·.1))&&Nat.blt d 1000&&Nat.ble L.length 100 with
 |true=>
  (match mapVs (toP L) (toI L) (toI L) args,ir look L L 900 with
  |some as,some S=>(match C.spec f as S with|some A=>qj look L S d A|none=>none)
  |_,_=>none)
 |false=>none
def kc(C:Cfg)(d:Nat)(f:Nat)(args:List AV)(look:Nat->Option SObj):Option CallR:=
 match ff (C.keeps f) args with
 |none=>none
 |some args=>s8 C d f args look (cQ C f args look)
def bp(T:Nat->AV)(c:Call):Option (Nat×List AV):=
 match c.callee with
 |.value (.func f)=>some (f,c.args.toList.map (opd T))
 |.value (.tmp t)=>(match T t with|.fn f caps=>some (f,c.args.toList.map (opd T)++caps)|_=>none)
 |_=>none
def cR(C:Cfg)(o:Oper)(T:Nat->AV)(look:Nat->Option SObj):Option CallR:=
 match o.op,o.dst with
 |.call c,some d=>(match bp T c with|some (f,args)=>kc C d f args look|none=>none)
 |_,_=>none
def eqD:(I:Ty)->den I->den I->Bool
 |.int _,x,y=>decide ((x:Int)=y)
 |.bool,x,y=>decide ((x:Bool)=y)
 |.str,x,y=>decide ((x:Str)=y)
 |.st .token,x,y=>decide ((x:Tokn).kind=(y:Tokn).kind)&&decide ((x:Tokn).text=(y:Tokn).text)&&decide ((x:Tokn).pos=(y:Tokn).pos)
 |_,_,_=>false
theorem uY{I:Ty}{x y:den I}(h:eqD I x y=true):x=y:=by
 unfold eqD at h;split at h
 ·exact Xo h
 ·exact Xo h
 ·exact Xo h
 ·rename_i x y;simp only[vW,wb]at h;obtain⟨⟨h1,h2⟩,h3⟩:=h;cases x;cases y;simp only at h1 h2 h3;rw[h1,h2,h3]
 ·cases h
def tT(I:Ty):List (den I)->List (den I)->Bool
 |[],[]=>true
 |x::r,y::s=>eqD I x y&&tT I r s
 |_,_=>false
theorem qk{I:Ty}:∀{l m:List (den I)},tT I l m=true->l=m
 |[],[],_=>rfl
 |x::r,y::s,h=>by simp only[tT,vW]at h;rw[uY h.1,qk h.2]
 |[],_::_,h=>by cases h
 |_::_,[],h=>by cases h
def eqX(I M:Ty)(xs:List (den I))(ys:List (den M)):Bool:=match dc I M xs with|some zs=>tT M zs ys|none=>false
theorem qP{I M:Ty}{xs:List (den I)}{ys:List (den M)}(h:dc I M xs=some ys):∃e:I=M,e ▸ xs=ys:=by
 unfold dc at h;split at h
 ·rename_i e;exact⟨e,wH h⟩
 ·cases h
theorem s9{I M:Ty}{xs:List (den I)}{ys:List (den M)}(h:eqX I M xs ys=true):∃e:I=M,e ▸ xs=ys:=by
 unfold eqX at h;split at h
 ·rename_i zs hz;obtain⟨e,he⟩:=qP hz;exact⟨e,he.trans (qk h)⟩
 ·cases h
mutual
def eqV:AV->AV->Bool
 |.undef,.undef=>true
 |.int k n,.int j m=>decide (k=j)&&decide (n=m)
 |.bool a,.bool b=>decide (a=b)
 |.str s,.str t=>decide (s=t)
 |.lst I xs o,.lst M ys p=>decide (o=p)&&eqX I M xs ys
 |.nils,.nils=>true
 |.nilp,.nilp=>true
 |.nilif,.nilif=>true
 |.nilm,.nilm=>true
 |.ptr i o,.ptr j p=>Nat.beq i j&&Nat.beq o p
 |.row I xs,.row M ys=>eqX I M xs ys
 |.map i,.map j=>Nat.beq i j
 |.bptr i,.bptr j=>Nat.beq i j
 |.cptr c,.cptr d=>eqV c d
 |.agg cs,.agg ds=>eqVs cs ds
 |.fn f cs,.fn g ds=>Nat.beq f g&&eqVs cs ds
 |_,_=>false
def eqVs:List AV->List AV->Bool
 |[],[]=>true
 |a::r,b::s=>eqV a b&&eqVs r s
 |_,_=>false
end
mutual
theorem eqV_ok:∀(a b:AV),eqV a b=true->a=b:=by
 intro a b h;unfold eqV at h;split at h
 ·rfl
 ·simp only[vW,wb]at h;rw[h.1,h.2]
 ·rw[Xo h]
 ·rw[Xo h]
 ·simp only[vW,wb]at h;obtain⟨e,he⟩:=s9 h.2;subst e;rw[h.1,<-he]
 ·rfl
 ·rfl
 ·rfl
 ·rfl
 ·simp only[vW]at h;rw[wm h.1,wm h.2]
 ·obtain⟨e,he⟩:=s9 h;subst e;rw[<-he]
 ·rw[wm h]
 ·rw[wm h]
 ·rename_i c d;rw[eqV_ok c d h]
 ·rename_i cs ds;rw[eqVs_ok cs ds h]
 ·rename_i f cs g ds;simp only[vW]at h;rw[wm h.1,eqVs_ok cs ds h.2]
 ·cases h
theorem eqVs_ok:∀(l m:List AV),eqVs l m=true->l=m
 |[],[],_=>rfl
 |a::r,b::s,h=>by simp only[eqVs,vW]at h;rw[eqV_ok a b h.1,eqVs_ok r s h.2]
 |[],_::_,h=>by cases h
 |_::_,[],h=>by cases h
end
def eqO:SObj->SObj->Bool
 |.box c,.box d=>eqV c d
 |.tail I n,.tail M m=>decide (I=M)&&Nat.beq n m
 |.bld t u l,.bld t' u' l'=>Nat.beq t t'&&Nat.beq u u'&&decide (l=l')
 |_,_=>false
theorem sa{a b:SObj}(h:eqO a b=true):a=b:=by
 unfold eqO at h;split at h
 ·rw[eqV_ok _ _ h]
 ·simp only[vW,wb]at h;rw[h.1,wm h.2]
 ·simp only[vW,wb]at h;rw[wm h.1.1,wm h.1.2,h.2]
 ·cases h
def cZ(look:Nat->Option SObj):List (Nat×SObj)->Prop
 |[]=>True
 |(i,o)::r=>(match look i with|some o'=>o'=o/\cZ look r|none=>cZ look r)
def df(look:Nat->Option SObj):List (Nat×SObj)->Bool
 |[]=>true
 |(i,o)::r=>(match look i with|some o'=>eqO o' o&&df look r|none=>df look r)
theorem fQ{look:Nat->Option SObj}:∀{l:List (Nat×SObj)},df look l=true->cZ look l
 |[],_=>trivial
 |(i,o)::r,h=>by
  unfold df at h;unfold cZ;split at h
  ·rw[vW]at h;exact⟨sa h.1,fQ h.2⟩
  ·exact fQ h
def okO:Option DP->Bool
 |none=>true
 |some d=>d.b
theorem sb{e:Eff}(h:okO e.ob=true):e.asks:=by
 unfold Eff.asks;split
 ·trivial
 ·rename_i d hd;rw[hd]at h;exact d.h h
def nB(look:Nat->Option SObj):List (Nat×SObj)->List (Nat×SObj)
 |[]=>[]
 |(i,o)::r=>(match look i with|some _=>nB look r|none=>(i,o)::nB look r)
def cE(b:Bool)(look:Nat->Option SObj)(e:Eff):Eff:=
 match b with
 |false=>e
 |true=>⟨some ⟨e.asks/\cZ look e.upd,okO e.ob&&df look e.upd,fun h=>by
   rw[vW]at h;exact⟨sb h.1,fQ h.2⟩⟩,e.val,nB look e.upd⟩
def sd(b:Bool)(u:List (Nat×SObj)):List Nat:=match b with|true=>u.map (·.1)|false=>[]
def fR(C:Cfg)(o:Oper):Bool:=match o.dst with|some d=>C.same d|none=>false
def au(C:Cfg)(o:Oper)(T:Nat->AV)(look:Nat->Option SObj):List Nat:=
 match o.op with
 |.alloc _|.box ..|.buildSlice ..|.makeSlice ..|.makeMap ..=>o.dst.toList
 |.load _ a|.store _ a _=>(match opd T a with|.ptr id _=>[id]|.aptr id _ _ _=>[id]|.tptr _ _ k=>[k]|_=>[])
 |.lookup _ x _ _=>(match opd T x with|.map id=>[id]|_=>[])
 |.mapUpdate _ x _ _|.insert _ x _ _=>(match opd T x with|.map id=>[id]|_=>[])
 |.call {callee:=.builtin .append,args,..}=>
  (match args.toList with
  |[x,_]=>(match opd T x with|.lst _ _ (some k)=>[k]|.nils=>o.dst.toList|_=>[])
  |_=>[])
 |.call {callee:=.builtin .len,args,..}=>
  (match args.toList with
  |[x]=>(match opd T x with|.map id=>[id]|_=>[])
  |_=>[])
 |.call c=>
  (match bp T c with
  |some (f,args)=>
   (match ff (C.keeps f) args with
   |some args=>(cQ C f args look).map (·.1)++(match cR C o T look with|some r=>r.foot++sd (fR C o) r.eff.upd|none=>[])
   |none=>[])
  |none=>[])
 |_=>[]
def bA(C:Cfg)(o:Oper)(T:Nat->AV)(look:Nat->Option SObj):Option (Bool×AV×List (Nat×SObj)):=
 match o.op with
 |.panic x=>some (true,opd T x,[])
 |.call _=>(match cR C o T look with|some r=>r.pan|none=>none)
 |_=>none
def cd{K V:Type}[DecidableEq K]:List (K×V)->K->Option V
 |[],_=>none
 |(a,v)::r,k=>if k=a then some v else cd r k
def fS{K V:Type}[DecidableEq K]:List (K×V)->K->V->List (K×V)
 |[],k,v=>[(k,v)]
 |(a,u)::r,k,v=>if k=a then(k,v)::r else(a,u)::fS r k v
def fg(U I:Ty)(m:List (den U×den I))(k:AV):Option (Option (den I)):=
 match U,m,k with
 |.str,m,.str k=>some (cd (K:=Str) m k)
 |.int j,m,.int j' k=>if j=j' then some (cd (K:=Int) m k)else none
 |.st .nm,m,k=>(match arg (.st .nm) k with|some k=>some (cd (K:=Nam) m k)|none=>none)
 |_,_,_=>none
def ew(U I:Ty)(m:List (den U×den I))(k:AV)(v:den I):Option (List (den U×den I)):=
 match U,m,k with
 |.str,m,.str k=>some (fS (K:=Str) m k v)
 |.int j,m,.int j' k=>if j=j' then some (fS (K:=Int) m k v)else none
 |.st .nm,m,k=>(match arg (.st .nm) k with|some k=>some (fS (K:=Nam) m k v)|none=>none)
 |_,_,_=>none
def vJ(r:TR)(n:SN):Bool:=
 match r.ty with
 |some (.st m)=>decide (n=m)
 |_=>false
def eJ:AV->Option (List AV)
 |.agg cs=>some cs
 |.st n x=>some (cells (.st n) x)
 |_=>none
def my:TI->AV->AV->Option Bool
 |.int _,.int j a,.int k b=>if j=k then some (decide (a=b))else none
 |.bool,.bool a,.bool b=>some (a ==b)
 |.str,.str a,.str b=>some (decide (a=b))
 |_,_,_=>none
def qQ(C:Cfg):List (Nat×Nat)->List AV->List AV->Option Bool
 |[],_,_=>some true
 |(off,t)::r,cs,ds=>
  match ak C.tbl t,nth cs off,nth ds off with
  |some rt,some c,some d=>(match my rt.ti c d,qQ C r cs ds with|some b,some b'=>some (b&&b')|_,_=>none)
  |_,_,_=>none
def oU(C:Cfg)(op:BinOp)(t:Nat)(cs ds:List AV):Option Eff:=
 match ak C.tbl t with
 |some ⟨.strct true fs,_,_,_,_⟩=>
  (match qQ C fs cs ds with
  |some b=>(match op with|.eql=>some (.pure (.bool b))|.neq=>some (.pure (.bool (!b)))|_=>none)
  |none=>none)
 |_=>none
def ql(r:TR)(I:Ty)(xs:List (den I))(i w off:Nat):Option Eff:=
 if w=a8 I then
  (match gO r (inj I (xs.getD i (dfl I))) off with|some v=>some ⟨some (dp (i<xs.length)),v,[]⟩|none=>none)
 else none
def kd(r:TR)(id:Nat)(I:Ty)(xs:List (den I))(i w off:Nat)(v:AV):Option Eff:=
 if w=a8 I then
  (match mv r (inj I (xs.getD i (dfl I))) off v with
  |some c=>(match arg I c with|some x=>some ⟨some (dp (i<xs.length)),.undef,[(id,.box (.row I (xs.set i x)))]⟩|none=>none)
  |none=>none)
 else none
def mz(C:Cfg):List (Nat×Nat)->Bool
 |[(0,a),(1,b)]=>(match ak C.tbl a,ak C.tbl b with|some ⟨.str,_,_,_,_⟩,some ⟨.str,_,_,_,_⟩=>true|_,_=>false)
 |_=>false
def fJ(C:Cfg):TI->Ty->Bool
 |.str,.str=>true
 |.int j,.int k=>decide (j=k)
 |.strct true fs,.st .nm=>mz C fs
 |_,_=>false
def mA(C:Cfg)(t:Nat)(x k:AV)(ok:Bool)(look:Nat->Option SObj):Option Eff:=
 match ak C.tbl t,x with
 |some ⟨.map kt e,_,_,_,_⟩,.map id=>
  (match ak C.tbl kt,ak C.tbl e,look id with
  |some rk,some re,some (.map U I m)=>
   (match lu I re.zero,fg U I m k with
   |some z,some g=>
    if fJ C rk.ti U&&decide (re.ty=some I)then some (.pure (match ok with|true=>.tup [inj I (g.getD z),.bool g.isSome]|false=>inj I (g.getD z)))else none
   |_,_=>none)
  |_,_,_=>none)
 |some ⟨.map kt e,_,_,_,_⟩,.nilm=>
  (match ak C.tbl kt,ak C.tbl e with
  |some rk,some re=>
   (match rk.ty,re.ty with
   |some U,some I=>
    (match lu I re.zero,fg U I [] k with
    |some z,some none=>if fJ C rk.ti U then some (.pure (match ok with|true=>.tup [inj I z,.bool false]|false=>inj I z))else none
    |_,_=>none)
   |_,_=>none)
  |_,_=>none)
 |_,_=>none
def fh(C:Cfg)(t:Nat)(x k v:AV)(look:Nat->Option SObj):Option Eff:=
 match ak C.tbl t,x with
 |some ⟨.map kt _,_,_,_,_⟩,.map id=>
  (match ak C.tbl kt,look id with
  |some rk,some (.map U I m)=>
   (match arg I v with
   |some v=>(match ew U I m k v with|some m=>if fJ C rk.ti U then some ⟨none,.undef,[(id,.map U I m)]⟩else none|none=>none)
   |none=>none)
  |_,_=>none)
 |_,_=>none
def tU:List AV->Bool
 |[]=>true
 |.int .i64 (.ofNat 0)::r=>tU r
 |_=>false
def qm(r:TR):Option AV:=
 match r.ti with
 |.arr _ n=>if tU r.zero&&cA r.zero n then some (.row (.int .i64) (List.replicate n (0:Int)))else none
 |_=>if r.isAgg then some (.agg r.zero)else(match r.zero with|[c]=>some c|_=>none)
def uJ(tbl:List (Nat×TR))(e:Nat)(r:TR):Option Nat:=
 match r.ti,r.zero with
 |.strct _ [(_,p),(_,s)],[.nilp,.nils]=>
  (match ak tbl p,ak tbl s with
  |some rp,some rs=>(match rp.ti,rs.ti with|.ptr e',.slice u=>if e'=e then some u else none|_,_=>none)
  |_,_=>none)
 |_,_=>none
def se(C:Cfg)(t:Nat)(x:AV)(lo hi:Option (Option Int)):Option Eff:=
  match ak C.tbl t,x,lo,hi with
  |some ⟨.str,_,_,_,_⟩,.str s,some l,some h=>
   some ⟨some (dp (0<=l.getD 0/\l.getD 0<=h.getD s.length/\h.getD s.length<=s.length)),.str ((s.take (h.getD s.length).toNat).drop (l.getD 0).toNat),[]⟩
  |some ⟨.slice e,_,_,_,_⟩,.lst I xs _,some l,some h=>
   (match ak C.tbl e with
   |some re=>
    if re.ty=some I then
     some ⟨some (dp (0<=l.getD 0/\l.getD 0<=h.getD xs.length/\h.getD xs.length<=xs.length)),.lst I ((xs.take (h.getD xs.length).toNat).drop (l.getD 0).toNat) none,[]⟩
    else none
   |none=>none)
  |_,_,_,_=>none
def uZ(C:Cfg)(t:Nat)(x:AV)(look:Nat->Option SObj):Option Eff:=
   match ak C.tbl t,x with
   |some ⟨.str,_,_,_,_⟩,.str s=>some (.pure (.int .i64 (s.length:Int)))
   |some ⟨.slice _,_,_,_,_⟩,.lst _ xs _=>some (.pure (.int .i64 (xs.length:Int)))
   |some ⟨.slice _,_,_,_,_⟩,.nils=>some (.pure (.int .i64 0))
   |some ⟨.slice _,_,_,_,_⟩,.arr _ n _=>some (.pure (.int .i64 n))
   |some ⟨.map _ _,_,_,_,_⟩,.map id=>(match look id with|some (.map _ _ m)=>some ⟨some (dp (m.length<=9223372036854775807)),.int .i64 (m.length:Int),[]⟩|_=>none)
   |_,_=>none
def ah(C:Cfg)(o:Oper)(T:Nat->AV)(look:Nat->Option SObj):Option Eff:=
 match o.op with
 |.move x|.assign x=>some (.pure (opd T x))
 |.pick c a b=>(match opd T c with|.bool c=>some (.pure (if c=true then opd T a else opd T b))|_=>none)
 |.alloc e=>
  (match o.dst,ak C.tbl e with
  |some d,some r=>
   (match uJ C.tbl e r with
   |some u=>(match look d with|none=>some ⟨none,.bptr d,[(d,.bld e u [])]⟩|_=>none)
   |none=>
   (match look d,qm r with
   |none,some c=>some ⟨none,.ptr d 0,[(d,.box c)]⟩
   |_,_=>none))
  |_,_=>none)
 |.box e x=>
  (match o.dst,ak C.tbl e with
  |some d,some r=>
   (match look d with
   |none=>if(a7 (opd T x)).all fc&&cA (a7 (opd T x)) r.size then some ⟨none,.ptr d 0,[(d,.box (opd T x))]⟩else none
   |_=>none)
  |_,_=>none)
 |.build t ps=>
  (match ak C.tbl t with
  |some ⟨.strct _ fs,_,_,zero,_⟩=>
   (match nA fs (fun t=>(ak C.tbl t).map (·.size)) zero (ps.toList.map fun(i,x)=>(i,opd T x))with
   |some cs=>some (.pure (.agg cs))
   |none=>none)
  |_=>none)
 |.buildSlice t len ps=>
  (match o.dst,ak C.tbl t with
  |some d,some ⟨.slice e,_,_,_,_⟩=>
   (match ak C.tbl e with
   |some ⟨_,size,_,_,some I⟩=>
    (match kb I 0 (ps.toList.map fun(i,x)=>(i,opd T x)),look d with
    |some l,none=>if(cA l len&&Nat.ble (len *size) 1000000)&&(ps.toList.map fun(i,x)=>(i,opd T x)).all (fun p=>(a7 p.2).all fc)then(match C.rows d with|false=>some ⟨none,.lst I l (some d),[(d,.tail I l.length)]⟩|true=>some ⟨none,.arr d l.length size,[(d,.box (.row I l))]⟩)else none
    |_,_=>none)
   |_=>none)
  |_,_=>none)
 |.load t a=>
  (match ak C.tbl t with
  |some r=>
   (match opd T a with
   |.ptr id off=>
    (match look id with
    |some (.box c)=>(gO r c off).map .pure
    |_=>none)
   |.cptr c=>(gO r c 0).map .pure
   |.aptr id i w off=>
    (match look id with
    |some (.box (.row I xs))=>ql r I xs i w off
    |_=>none)
   |_=>none)
  |none=>none)
 |.store t a x=>
  (match ak C.tbl t with
  |some r=>
   (match r.size with
   |0=>(match opd T a,a7 (opd T x)with|.ptr _ _,[]=>some (.pure .undef)|_,_=>none)
   |_+1=>
   (match opd T a with
   |.ptr id off=>
    (match look id with
    |some (.box c)=>
     (match mv r c off (opd T x)with
     |some c=>some ⟨none,.undef,[(id,.box c)]⟩
     |none=>none)
    |_=>none)
   |.aptr id i w off=>
    (match look id with
    |some (.box (.row I xs))=>kd r id I xs i w off (opd T x)
    |_=>none)
   |.tptr I n k=>
    (match look k with
    |some (.tailp I' m _)=>
     if I'=I then
      (match arg I (opd T x)with
      |some v=>if(a7 (opd T x)).all fc&&(cA (a7 (opd T x)) r.size&&Nat.beq r.size (a8 I))then some ⟨some (dp (n=m)),.undef,[(k,.tailp I m v)]⟩else none
      |none=>none)
     else none
    |_=>none)
   |_=>none))
  |none=>none)
 |.nilCheck x=>
  (match opd T x with
  |.ptr id off=>some (.pure (.ptr id off))
  |.cptr c=>some (.pure (.cptr c))
  |.aptr id i w off=>some (.pure (.aptr id i w off))
  |.fn f cs=>some (.pure (.fn f cs))
  |.pt n x=>some ⟨some (dp (x.isSome=true)),.cptr (.st n (x.getD (dfl (.st n)))),[]⟩
  |_=>none)
 |.binOp op t x y _=>
  (match opd T x,opd T y with
  |.int k a,.int k' b=>if k=k' then oQ op k a b else none
  |.str a,.str b=>oR op a b
  |.bool a,.bool b=>(match ak C.tbl t with|some ⟨.bool,_,_,_,_⟩=>mu op a b|_=>none)
  |.pt _ a,.nilp=>
   (match ak C.tbl t with
   |some ⟨.ptr _,_,_,_,_⟩=>(match op with|.eql=>some (.pure (.bool a.isNone))|.neq=>some (.pure (.bool a.isSome))|_=>none)
   |_=>none)
  |.iface _ _,.nilif=>
   (match ak C.tbl t with
   |some ⟨.iface,_,_,_,_⟩=>(match op with|.eql=>some (.pure (.bool false))|.neq=>some (.pure (.bool true))|_=>none)
   |_=>none)
  |.nilif,.nilif=>
   (match ak C.tbl t,y with
   |some ⟨.iface,_,_,_,_⟩,.const _=>(match op with|.eql=>some (.pure (.bool true))|.neq=>some (.pure (.bool false))|_=>none)
   |_,_=>none)
  |.nilm,.nilm=>
   (match ak C.tbl t,y with
   |some ⟨.map _ _,_,_,_,_⟩,.const _=>(match op with|.eql=>some (.pure (.bool true))|.neq=>some (.pure (.bool false))|_=>none)
   |_,_=>none)
  |.map _,.nilm=>
   (match ak C.tbl t,y with
   |some ⟨.map _ _,_,_,_,_⟩,.const _=>(match op with|.eql=>some (.pure (.bool false))|.neq=>some (.pure (.bool true))|_=>none)
   |_,_=>none)
  |.nils,.nils=>
   (match ak C.tbl t,y with
   |some ⟨.slice _,_,_,_,_⟩,.const _=>(match op with|.eql=>some (.pure (.bool true))|.neq=>some (.pure (.bool false))|_=>none)
   |_,_=>none)
  |.lst _ xs _,.nils=>
   (match ak C.tbl t,y with
   |some ⟨.slice _,_,_,_,_⟩,.const _=>(match op with|.eql=>some ⟨some (dp (xs.length≠0)),.bool false,[]⟩|.neq=>some ⟨some (dp (xs.length≠0)),.bool true,[]⟩|_=>none)
   |_,_=>none)
  |x,y=>(match eJ x,eJ y with|some cs,some ds=>oU C op t cs ds|_,_=>none))
 |.unOp op _ x=>
  (match op,opd T x with
  |.not,.bool b=>some (.pure (.bool (!b)))
  |.neg,.int k n=>some ⟨some (dp (inR k (0-n))),.int k (0-n),[]⟩
  |_,_=>none)
 |.convert s d x=>
  (match ak C.tbl s,ak C.tbl d,opd T x with
  |some _,some ⟨.int k,_,_,_,_⟩,.int _ n=>some ⟨some (dp (inR k n)),.int k n,[]⟩
  |some _,some ⟨.str,_,_,_,_⟩,.str s=>some (.pure (.str s))
  |_,_,x=>uI C s d x)
 |.fieldAddr s x f=>
  (match ak C.tbl s with
  |some r=>
   (match jM r f,opd T x with
   |some (off,_),.ptr id o=>some (.pure (.ptr id (o+off)))
   |some (off,_),.aptr id i w o=>some (.pure (.aptr id i w (o+off)))
   |some (off,t),.cptr c=>
    (match off,c,ak C.tbl t with
    |off,.st n x,some ⟨_,_,_,_,some (.st m)⟩=>
     (match fO n off x with
     |some (.st m' y)=>if m'=m then some (.pure (.cptr (.st m' y)))else none
     |_=>(match gN (a7 (.st n x)) off with|some (c::r)=>some (.pure (.cptr (.agg (c::r))))|_=>none))
    |off,c,_=>(match gN (a7 c) off with|some (c::r)=>some (.pure (.cptr (.agg (c::r))))|_=>none))
   |_,_=>none)
  |none=>none)
 |.field s x f=>
  (match ak C.tbl s with
  |some r=>
   (match jM r f with
   |some (off,t)=>
    (match ak C.tbl t,opd T x with
    |some rt,.agg cs=>(gO rt (.agg cs) off).map .pure
    |some rt,.st n x=>if vJ r n then(gO rt (.st n x) off).map .pure else none
    |_,_=>none)
   |_=>none)
  |none=>none)
 |.indexAddr t x i=>
  (match ak C.tbl t,opd T x,opd T i with
  |some ⟨.slice e,_,_,_,_⟩,.lst I xs _,.int _ n=>
   (match ak C.tbl e with
   |some re=>if re.ty=some I then some ⟨some (dp (0<=n/\n<xs.length)),.cptr (inj I (xs.getD n.toNat (dfl I))),[]⟩else none
   |none=>none)
  |some ⟨.slice e,_,_,_,_⟩,.arr id m w,.int _ n=>
   (match ak C.tbl e with
   |some re=>if re.size=w then some ⟨some (dp (0<=n/\n<m)),.aptr id n.toNat w 0,[]⟩else none
   |none=>none)
  |some ⟨.slice e,_,_,_,_⟩,.lstp I xs k,.int _ n=>
   (match ak C.tbl e with
   |some re=>if re.ty=some I then some ⟨some (dp (n=(xs.length:Int))),.tptr I xs.length k,[]⟩else none
   |none=>none)
  |some ⟨.arr e m,_,_,_,_⟩,.ptr id 0,.int _ n=>
   (match ak C.tbl e with
   |some re=>some ⟨some (dp (0<=n/\n<m)),.aptr id n.toNat re.size 0,[]⟩
   |none=>none)
  |_,_,_=>none)
 |.index t x i=>
  (match ak C.tbl t,opd T x,opd T i with
  |some ⟨.str,_,_,_,_⟩,.str s,.int _ n=>some ⟨some (dp (0<=n/\n<s.length)),.int .u8 ((s.getD n.toNat 0).toNat:Int),[]⟩
  |_,_,_=>none)
 |.slice t x lo hi none=>se C t (opd T x) (bnd T lo) (bnd T hi)
 |.extract x i=>(match opd T x with|.tup vs=>(nth vs i).map .pure|_=>none)
 |.call {callee:=.builtin .len,args,argTypes}=>
  (match args.toList,argTypes.toList with
  |[x],[t]=>uZ C t (opd T x) look
  |_,_=>none)
 |.call {callee:=.builtin .append,args,argTypes}=>
  (match args.toList,argTypes.toList,o.dst with
  |[x,y],[t,t'],some d=>if t ==t' then(match C.pend d with|true=>jN C t d (opd T x) (opd T y) look|false=>mw C t d (opd T x) (opd T y) look)else(match opd T y with|.str s=>jO C t t' (opd T x) s look|_=>none)
  |_,_,_=>none)
 |.call {callee:=.builtin .max,args,..}=>
  (match args.toList with
  |[x,y]=>(match opd T x,opd T y with|.int k a,.int k' b=>if k=k' then some (.pure (.int k (max a b)))else none|_,_=>none)
  |_=>none)
 |.call {callee:=.builtin .min,args,..}=>
  (match args.toList with
  |[x,y]=>(match opd T x,opd T y with|.int k a,.int k' b=>if k=k' then some (.pure (.int k (min a b)))else none|_,_=>none)
  |_=>none)
 |.call {callee:=.builtin _,..}=>none
 |.call _=>(match cR C o T look with|some r=>some (cE (fR C o) look r.eff)|none=>none)
 |.makeFunc (.func f) first caps=>if first.isEmpty then some (.pure (.fn f (caps.toList.map (opd T))))else none
 |.makeInterface t x=>(match ak C.tbl t with|some r=>(match r.ti with|.iface=>none|_=>some (.pure (.iface t (opd T x))))|none=>none)
 |.typeAssert x _ t true=>
  (match opd T x,ak C.tbl t with
  |.iface t' a,some r=>(match r.ti with|.iface=>none|_=>if t'=t then some (.pure (.tup [a,.bool true]))else none)
  |_,_=>none)
 |.panic x=>(match opd T x with|.iface _ _=>some (.pure .undef)|_=>none)
 |.makeMap t h=>
  (match o.dst,ak C.tbl t with
  |some d,some ⟨.map k e,_,_,_,_⟩=>
   (match ak C.tbl k,ak C.tbl e,look d with
   |some ⟨_,_,_,_,some U⟩,some ⟨_,_,_,_,some I⟩,none=>
    (match h.map (opd T)with
    |none|some (.int _ _)=>some ⟨none,.map d,[(d,.map U I [])]⟩
    |_=>none)
   |_,_,_=>none)
  |_,_=>none)
 |.lookup t x k ok=>mA C t (opd T x) (opd T k) ok look
 |.mapUpdate t x k v=>fh C t (opd T x) (opd T k) (opd T v) look
 |.insert t x k v=>fh C t (opd T x) (opd T k) (opd T v) look
 |.makeSlice t n c=>
  (match o.dst,ak C.tbl t,opd T n,opd T c with
  |some d,some ⟨.slice e,_,_,_,_⟩,.int .i64 a,.int .i64 b=>
   (match ak C.tbl e,look d with
   |some ⟨_,size,bytes,zero,some I⟩,none=>
    (match lu I zero with
    |some z=>
     (match n with
     |.const (.int _ (.ofNat 0))=>some ⟨some (dp (0<=b/\b *bytes<=140737488355328)),.lst I [] (some d),[(d,.tail I 0)]⟩
     |_=>some ⟨some (dp (0<=a/\a<=b/\b *bytes<=140737488355328)),.arr d a.toNat size,[(d,.box (.row I (List.replicate a.toNat z)))]⟩)
    |none=>none)
   |_,_=>none)
  |_,_,_,_=>none)
 |_=>none
def jG(t:List (Nat×AV))(d:Option Nat)(v:AV):List (Nat×AV):=
 match d with
 |some d=>fb t d v
 |none=>t
def b5:List (Nat×SObj)->List (Nat×SObj)->List (Nat×SObj)
 |b,[]=>b
 |b,(i,o)::r=>b5 (jF b i o) r
def St.put(s:St)(d:Option Nat)(e:Eff):St:=⟨jG s.t d e.val,b5 s.b e.upd⟩
def da(ops:List Oper)(i:Nat):Bool:=ops.any fun o=>match o.guard with|some (j,_)=>j ==i|none=>false
def sp(b:Bool)(p q:Prop):Prop:=if b=true then p else q
def lO:Option DP->Prop->Prop
 |none,q=>q
 |some d,q=>d.p/\q
abbrev bw:=List Nat×List Nat
def aU(C:Cfg)(ops:List Oper)(draw:Bool)(kp:AV->St->Prop):List Oper->Nat->St->List bw->(St->List bw->Prop)->Prop
 |[],_,s,fs,k=>k s fs.reverse
 |o::r,i,s,fs,k=>
  let on:Unit->Prop:=fun _=>
   match ah C o (aE s.t) (ae s.b)with
   |none=>False
   |some e=>
    lO e.ob
    (match bA C o (aE s.t) (ae s.b)with
    |none=>
     (match da ops i,e.val with
     |true,.bool b=>
      sp b (aU C ops draw kp r (i+1) (s.put o.dst {e with val:=.bool true}) ((au C o (aE s.t) (ae s.b),e.upd.map (·.1))::fs) k)
       (aU C ops draw kp r (i+1) (s.put o.dst {e with val:=.bool false}) ((au C o (aE s.t) (ae s.b),e.upd.map (·.1))::fs) k)
     |true,_=>False
     |false,_=>aU C ops draw kp r (i+1) (s.put o.dst e) ((au C o (aE s.t) (ae s.b),e.upd.map (·.1))::fs) k)
    |some (b,pv,u)=>
     (match draw||da ops i with
     |true=>False
     |false=>sp b (kp pv ⟨s.t,b5 s.b u⟩) (aU C ops draw kp r (i+1) (s.put o.dst e) ((au C o (aE s.t) (ae s.b),e.upd.map (·.1))::fs) k)))
  let off:Unit->Prop:=fun _=>aU C ops draw kp r (i+1) ⟨jG s.t o.dst (.tup []),s.b⟩ (([],[])::fs) k
  match o.guard with
  |none=>on ()
  |some (j,want)=>
   match(nth ops j).bind (·.dst)with
   |none=>False
   |some d=>
    match aE s.t d with
    |.bool true=>if want then on ()else off ()
    |.bool false=>if want then off ()else on ()
    |.tup []=>off ()
    |_=>False
def oV(o:Oper):List Nat:=o.op.operands.toList.filterMap fun|.tmp t=>some t|_=>none
def fj(ops:List Oper)(o:Oper):List Nat:=
 oV o++(match o.guard with|some (g,_)=>((nth ops g).bind (·.dst)).toList|none=>[])
def nC(a b:List Nat):Bool:=a.all fun x=>!b.contains x
def ke(ops:List Oper)(x y:Oper):Bool:=
 (match x.dst with|some d=>!(fj ops y).contains d&&!(y.dst ==some d)|none=>true)&&
 (match y.dst with|some d=>!(fj ops x).contains d|none=>true)
def dS(f g:bw):Bool:=nC f.2 (g.1++g.2)&&nC g.2 f.1
def kf(acc:List Nat)(o:Oper):Nat:=(o.after.toList.filter (Region.binds .any)).foldl (init:=0) fun m e=>m ||| 2 ^ e.on ||| acc.getD e.on 0
def mB(ops:List Oper):List Nat:=ops.foldl (init:=[]) fun acc o=>acc++[kf acc o]
def bZ(ops:List Oper)(fs:List bw):Bool:=
 ((List.range ops.length).all fun j=>(List.range j).all fun i=>
  ((mB ops).getD j 0).testBit i||
  (match nth ops i,nth ops j,nth fs i,nth fs j with
   |some x,some y,some f,some g=>ke ops x y&&dS f g
   |_,_,_,_=>false))&&
 (ops.zipIdx.all fun(o,j)=>o.after.all fun e=>!Region.binds .any e||Nat.blt e.on j)
def bJ(A:List Nat)(s:St):Bool:=(s.t.all fun x=>nC (ids x.2) A)&&(s.b.all fun x=>nC (oS x.2) A)
def kg(ops:List Oper):List Nat:=
 ops.filterMap fun o=>match o.op with
  |.alloc _|.box ..|.buildSlice ..|.makeSlice ..|.makeMap ..|.call {callee:=.builtin .append,..}=>o.dst
  |_=>none
def mC(ops:List Oper):List Nat:=
 ops.filterMap fun o=>match o.op with
  |.call {callee:=.value _,..}=>o.dst
  |_=>none
def qn(ds cs:List Nat)(i:Nat):Bool:=ds.contains i||(Nat.ble 1000 i&&cs.contains (i%1000))
def enter(ops:List Oper)(s:St):Option St:=
 let A:=(s.b.map (·.1)).filter fun i=>qn (kg ops) (mC ops) i&&!aP i
 if A.isEmpty then some s else
  let s':St:=⟨s.t.filter fun x=>!A.contains x.1,s.b.filter fun x=>!A.contains x.1⟩
  if bJ A s' then some s' else none
mutual
def pubV(id:Nat)(c:AV):AV->AV
 |.ptr i o=>(match o with|0=>if i=id then .cptr c else .ptr i 0|o+1=>.ptr i (o+1))
 |.arr i n w=>if i=id then(match c with|.row I xs=>if w=a8 I then .lst I (xs.take n) none else .arr i n w|_=>.arr i n w)else .arr i n w
 |.cptr d=>.cptr (pubV id c d)
 |.agg cs=>.agg (pubVs id c cs)
 |.tup cs=>.tup (pubVs id c cs)
 |.fn f cs=>.fn f (pubVs id c cs)
 |.iface t a=>.iface t (pubV id c a)
 |a=>a
def pubVs(id:Nat)(c:AV):List AV->List AV
 |[]=>[]
 |a::r=>pubV id c a::pubVs id c r
end
def sf(id:Nat)(c:AV):SObj->SObj
 |.box d=>.box (pubV id c d)
 |o=>o
def v7(id:Nat)(s:St):Option St:=
 match ae s.b id with
 |some (.box c)=>
  let s':St:=⟨s.t.map fun x=>(x.1,pubV id c x.2),(s.b.filter fun x=>!(x.1 ==id)).map fun x=>(x.1,sf id c x.2)⟩
  if bJ [id] s'&&nC (ids c) [id]&&!aP id then some s' else none
 |_=>none
def iP:List Nat->St->Option St
 |[],s=>some s
 |i::r,s=>(match v7 i s with|some s=>iP r s|none=>none)
mutual
def lensV(k:Nat):AV->List Nat
 |.lstp _ xs j=>(match Nat.beq j k with|true=>[xs.length]|false=>[])
 |.cptr d=>lensV k d
 |.agg cs=>lensVs k cs
 |.tup cs=>lensVs k cs
 |.fn _ cs=>lensVs k cs
 |.iface _ a=>lensV k a
 |_=>[]
def lensVs(k:Nat):List AV->List Nat
 |[]=>[]
 |a::r=>lensV k a++lensVs k r
end
mutual
def finV(k:Nat)(I:Ty)(x:den I):AV->AV
 |.lstp M xs j=>(match Nat.beq j k with|true=>(match dc I M [x]with|some l=>.lst M (xs++l) (some k)|none=>.undef)|false=>.lstp M xs j)
 |.tptr M n j=>(match Nat.beq j k with|true=>.undef|false=>.tptr M n j)
 |.cptr d=>.cptr (finV k I x d)
 |.agg cs=>.agg (finVs k I x cs)
 |.tup cs=>.tup (finVs k I x cs)
 |.fn f cs=>.fn f (finVs k I x cs)
 |.iface t a=>.iface t (finV k I x a)
 |a=>a
def finVs(k:Nat)(I:Ty)(x:den I):List AV->List AV
 |[]=>[]
 |a::r=>finV k I x a::finVs k I x r
end
def uK(k:Nat):SObj->List Nat
 |.box c=>lensV k c
 |_=>[]
def qR(k:Nat)(I:Ty)(x:den I):SObj->SObj
 |.box c=>.box (finV k I x c)
 |o=>o
def mD(n:Nat):List Nat->Prop->Prop
 |[],q=>q
 |m::r,q=>m=n/\mD n r q
def oW(k:Nat)(s:St)(Q:St->Prop):Prop:=
 match ae s.b k with
 |some (.tailp I n x)=>
  mD n (s.t.flatMap (fun y=>lensV k y.2)++s.b.flatMap (fun y=>uK k y.2))
   (Q ⟨s.t.map fun y=>(y.1,finV k I x y.2),(jF s.b k (.tail I (n+1))).map fun y=>(y.1,qR k I x y.2)⟩)
 |_=>Q s
def oX:List Nat->St->(St->Prop)->Prop
 |[],s,Q=>Q s
 |k::r,s,Q=>oW k s fun s=>oX r s Q
def jP:List (Nat×SObj)->List Nat
 |[]=>[]
 |(k,.tailp _ _ _)::r=>k::jP r
 |_::r=>jP r
def v8(s:St)(Q:St->Prop):Prop:=oX (jP s.b) s Q
def LeF(G:List Nat):AV->AV->Prop
 |_,.undef=>True
 |.int k n,.int k' n'=>if k=k' then n=n' else False
 |.bool b,.bool b'=>b=b'
 |.str s,.str s'=>s=s'
 |.lst I xs o,.lst M ys p=>(match dc I M xs with|some xs=>xs=ys|none=>False)/\(if p=none∨p=o then True else False)
 |.nils,.lst _ ys p=>(match p with|none=>True|some k=>if G.contains k=true then True else False)/\ys=[]
 |.nils,.nils=>True
 |.nilp,.nilp=>True
 |.ptr i o,.ptr j p=>if i=j/\o=p then True else False
 |.st n x,.st m y=>(match fN n m x with|some x=>x=y|none=>False)
 |.row I xs,.row M ys=>(match dc I M xs with|some xs=>xs=ys|none=>False)
 |.arr i n w,.arr j m v=>if i=j/\w=v then n=m else False
 |.aptr i n w o,.aptr j m v p=>if i=j/\w=v/\o=p then n=m else False
 |.map i,.map j=>if i=j then True else False
 |.bptr i,.bptr j=>if i=j then True else False
 |.pt n x,.pt m y=>(match je n m x with|some x=>x=y|none=>False)
 |.nilp,.pt _ y=>y=none
 |.nilif,.nilif=>True
 |.nilm,.nilm=>True
 |_,_=>False
def nD(G:List Nat):List AV->List AV->Prop
 |[],[]=>True
 |a::r,b::s=>LeF G a b/\nD G r s
 |_,_=>False
def lP:AV->AV->Prop
 |.agg _,.undef=>False
 |.st _ _,.undef=>False
 |.row _ _,.undef=>False
 |_,_=>True
mutual
def LeV(G:List Nat):AV->AV->Prop
 |.cptr c,.cptr d=>lP c d/\LeV G c d
 |.cptr (.st n x),.pt m y=>(match fN n m x with|some x=>some x=y|none=>False)
 |.iface t a,.iface u b=>(if t=u then True else False)/\LeV G a b
 |.agg cs,.st m y=>nD G cs (cells (.st m) y)
 |.st n x,.agg ds=>nD G (cells (.st n) x) ds
 |.agg cs,.agg ds=>LeL G cs ds
 |.tup cs,.tup ds=>LeL G cs ds
 |.fn f cs,.fn g ds=>(if f=g then True else False)/\LeL G cs ds
 |a,b=>LeF G a b
def LeL(G:List Nat):List AV->List AV->Prop
 |[],[]=>True
 |a::r,b::s=>LeV G a b/\LeL G r s
 |_,_=>False
end
def qo(U I U' I':Ty)(m:List (den U×den I)):Option (List (den U'×den I')):=if h:U=U'/\I=I' then some (h.1 ▸ h.2 ▸ m)else none
def LeT(G:List Nat)(s:St):List (Nat×AV)->Prop
 |[]=>True
 |(i,a)::r=>LeV G (aE s.t i) a/\LeT G s r
def LeB(G:List Nat)(s:St):List (Nat×SObj)->Prop
 |[]=>True
 |(i,.box d)::r=>(match ae s.b i with|some (.box c)=>lP c d/\LeV G c d|_=>False)/\LeB G s r
 |(i,.tail I n)::r=>(match ae s.b i with|some (.tail M m)=>(if M=I then m=n else False)|none=>n=0|_=>False)/\LeB G s r
 |(i,.map U I m)::r=>(match ae s.b i with|some (.map U' I' m')=>(match qo U' I' U I m' with|some m'=>m'=m|none=>False)|_=>False)/\LeB G s r
 |(i,.bld t u l)::r=>(match ae s.b i with|some (.bld t' u' l')=>(if t'=t/\u'=u then l'=l else False)|_=>False)/\LeB G s r
 |(_,.tailp _ _ _)::_=>False
def ao{Y:Type}(l:List (Nat×Y)):List Nat:=l.map (·.1)
def cg(s s':St):List Nat:=(ao s'.b).filter fun i=>(ae s.b i).isNone
def LeS(s s':St):Prop:=
 (if bJ ((ao s.b).filter fun i=>!(ao s'.b).contains i) s'&&((ao s.b).filter fun i=>!(ao s'.b).contains i).all (fun i=>!aP i)then True else False)/\LeT (cg s s') s s'.t/\LeB (cg s s') s s'.b
def chk(b:Bool)(k:Prop):Prop:=match b with|true=>k|false=>False
def cF(G:List Nat)(a b:AV)(k:Prop):Prop:=
 match a,b with
 |_,.undef=>k
 |.int j n,.int j' n'=>chk (decide (j=j')) (n=n'/\k)
 |.bool b,.bool b'=>b=b'/\k
 |.str s,.str s'=>s=s'/\k
 |.lst I xs o,.lst M ys p=>(match dc I M xs with|some xs=>chk (decide (p=none∨p=o)) (xs=ys/\k)|none=>False)
 |.nils,.lst _ ys p=>(match p with|none=>ys=[]/\k|some i=>chk (G.contains i) (ys=[]/\k))
 |.nils,.nils=>k
 |.nilp,.nilp=>k
 |.ptr i o,.ptr j p=>chk (decide (i=j/\o=p)) k
 |.st n x,.st m y=>(match fN n m x with|some x=>x=y/\k|none=>False)
 |.row I xs,.row M ys=>(match dc I M xs with|some xs=>xs=ys/\k|none=>False)
 |.arr i n w,.arr j m v=>chk (decide (i=j/\w=v)) (n=m/\k)
 |.aptr i n w o,.aptr j m v p=>chk (decide (i=j/\w=v/\o=p)) (n=m/\k)
 |.map i,.map j=>chk (decide (i=j)) k
 |.bptr i,.bptr j=>chk (decide (i=j)) k
 |.pt n x,.pt m y=>(match je n m x with|some x=>x=y/\k|none=>False)
 |.nilp,.pt _ y=>y=none/\k
 |.nilif,.nilif=>k
 |.nilm,.nilm=>k
 |_,_=>False
def cFs(G:List Nat):List AV->List AV->Prop->Prop
 |[],[],k=>k
 |a::r,b::s,k=>cF G a b (cFs G r s k)
 |_,_,_=>False
def mE:AV->AV->Bool
 |.agg _,.undef=>false
 |.st _ _,.undef=>false
 |.row _ _,.undef=>false
 |_,_=>true
mutual
def cV(G:List Nat):AV->AV->Prop->Prop
 |.cptr c,.cptr d,k=>chk (mE c d) (cV G c d k)
 |.cptr (.st n x),.pt m y,k=>(match fN n m x with|some x=>some x=y/\k|none=>False)
 |.iface t a,.iface u b,k=>chk (Nat.beq t u) (cV G a b k)
 |.agg cs,.st m y,k=>cFs G cs (cells (.st m) y) k
 |.st n x,.agg ds,k=>cFs G (cells (.st n) x) ds k
 |.agg cs,.agg ds,k=>cL G cs ds k
 |.tup cs,.tup ds,k=>cL G cs ds k
 |.fn f cs,.fn g ds,k=>chk (Nat.beq f g) (cL G cs ds k)
 |a,b,k=>cF G a b k
def cL(G:List Nat):List AV->List AV->Prop->Prop
 |[],[],k=>k
 |a::r,b::s,k=>cV G a b (cL G r s k)
 |_,_,_=>False
end
def cT(G:List Nat)(s:St):List (Nat×AV)->Prop->Prop
 |[],k=>k
 |(i,a)::r,k=>cV G (aE s.t i) a (cT G s r k)
def cB(G:List Nat)(s:St):List (Nat×SObj)->Prop
 |[]=>True
 |(i,.box d)::r=>(match ae s.b i with|some (.box c)=>chk (mE c d) (cV G c d (cB G s r))|_=>False)
 |(i,.tail I n)::r=>
  (match ae s.b i with
  |some (.tail M m)=>chk (decide (M=I)) (m=n/\cB G s r)
  |none=>n=0/\cB G s r
  |_=>False)
 |(i,.map U I m)::r=>(match ae s.b i with|some (.map U' I' m')=>(match qo U' I' U I m' with|some m'=>m'=m/\cB G s r|none=>False)|_=>False)
 |(i,.bld t u l)::r=>(match ae s.b i with|some (.bld t' u' l')=>chk (decide (t'=t/\u'=u)) (l'=l/\cB G s r)|_=>False)
 |(_,.tailp _ _ _)::_=>False
def cS(s s':St):Prop:=
 chk (bJ ((ao s.b).filter fun i=>!(ao s'.b).contains i) s'&&((ao s.b).filter fun i=>!(ao s'.b).contains i).all (fun i=>!aP i))
  (cT (cg s s') s s'.t (cB (cg s s') s s'.b))
inductive SX where
 |normal|exit (id:Nat)|ret|pan (v:AV)
structure LA where
 ι:Type
 pre:ι->Prop
 t:ι->List (Nat×AV)
 b:ι->List (Nat×SObj)
 m:ι->Nat
structure An where
 l:List (Nat×(St->LA))
 p:List (Nat×List Nat)
 j:List (Nat×(St->List (Nat×AV)×List (Nat×SObj)))
def sg:List (Nat×(St->List (Nat×AV)×List (Nat×SObj)))->Nat->Option (St->List (Nat×AV)×List (Nat×SObj))
 |[],_=>none
 |(j,x)::r,i=>if j ==i then some x else sg r i
def sh:List (Nat×List Nat)->Nat->List Nat
 |[],_=>[]
 |(j,x)::r,i=>if j ==i then x else sh r i
def bq:Code->List Nat
 |.region _ ops _=>ops.toList.filterMap (·.dst)
 |.seq a b=>bq a++bq b
 |.cond _ a b=>bq a++bq b
 |.block _ c|.loop c|.scope c=>bq c
 |_=>[]
def fk(D:List Nat)(s:St)(ts:List (Nat×AV))(bs:List (Nat×SObj)):St:=
 ⟨ts++s.t.filter fun x=>!D.contains x.1&&!(kh ts).contains x.1,bs++s.b.filter fun x=>!(qn D D x.1&&!aP x.1)&&!(kh bs).contains x.1⟩
where kh {Y:Type} (l:List (Nat×Y)):List Nat:=l.map (·.1)
def bQ:Code->Option Nat
 |.region id _ _=>some id
 |.seq a b=>(bQ a).or (bQ b)
 |.cond _ a b=>(bQ a).or (bQ b)
 |.block _ c|.loop c|.scope c=>bQ c
 |_=>none
def uL(l:List (Nat×(St->LA)))(i:Nat):Option (St->LA):=
 match l with
 |[]=>none
 |(j,a)::r=>if j ==i then some a else uL r i
mutual
def forceV:AV->(AV->Prop)->Prop
 |.undef,k=>k .undef
 |.int U n,k=>k (.int U n)
 |.bool b,k=>k (.bool b)
 |.str s,k=>k (.str s)
 |.lst I xs none,k=>k (.lst I xs none)
 |.lst I xs (some i),k=>k (.lst I xs (some i))
 |.nils,k=>k .nils
 |.ptr i o,k=>k (.ptr i o)
 |.cptr c,k=>forceV c fun c=>k (.cptr c)
 |.nilp,k=>k .nilp
 |.st n x,k=>k (.st n x)
 |.agg cs,k=>forceL cs fun cs=>k (.agg cs)
 |.tup cs,k=>forceL cs fun cs=>k (.tup cs)
 |.fn f cs,k=>forceL cs fun cs=>k (.fn f cs)
 |.row I xs,k=>k (.row I xs)
 |.arr i n w,k=>k (.arr i n w)
 |.aptr i n w o,k=>k (.aptr i n w o)
 |.map i,k=>k (.map i)
 |.bptr i,k=>k (.bptr i)
 |.iface t a,k=>forceV a fun a=>k (.iface t a)
 |.nilif,k=>k .nilif
 |.nilm,k=>k .nilm
 |.pt n x,k=>k (.pt n x)
 |.lstp I xs i,k=>k (.lstp I xs i)
 |.tptr I n i,k=>k (.tptr I n i)
def forceL:List AV->(List AV->Prop)->Prop
 |[],k=>k []
 |a::r,k=>forceV a fun a=>forceL r fun r=>k (a::r)
end
def mF:List (Nat×AV)->(List (Nat×AV)->Prop)->Prop
 |[],k=>k []
 |(i,a)::r,k=>forceV a fun a=>mF r fun r=>k ((i,a)::r)
def dr:List (Nat×SObj)->(List (Nat×SObj)->Prop)->Prop
 |[],k=>k []
 |(i,.box c)::r,k=>forceV c fun c=>dr r fun r=>k ((i,.box c)::r)
 |(i,.tail I n)::r,k=>dr r fun r=>k ((i,.tail I n)::r)
 |(i,.map U I m)::r,k=>dr r fun r=>k ((i,.map U I m)::r)
 |(i,.bld t u l)::r,k=>dr r fun r=>k ((i,.bld t u l)::r)
 |(i,.tailp I n x)::r,k=>dr r fun r=>k ((i,.tailp I n x)::r)
def dh(s:St)(k:St->Prop):Prop:=mF s.t fun t=>dr s.b fun b=>k ⟨t,b⟩
def qp:List Oper->List Nat->List Oper->List Nat
 |_,_,[]=>[]
 |ops,w,o::r=>((fj ops o).filter fun t=>!w.contains t)++qp ops (o.dst.toList++w) r
def ec:Code->List Nat
 |.region _ ops _=>qp ops.toList [] ops.toList
 |.seq a b=>ec a++ec b
 |.cond (.tmp t) a b=>t::(ec a++ec b)
 |.cond _ a b=>ec a++ec b
 |.block _ c|.loop c|.scope c=>ec c
 |_=>[]
def va:ResultVar->Nat
 |.tmp t=>t
 |.cell a _=>a
def vb(fn:Func)(c:Code):List Nat:=(ec c++fn.results.toList.map va).eraseDups
def trim(keep:List Nat)(s:St):St:=⟨s.t.filter fun x=>keep.contains x.1,s.b⟩
def ed:List Nat->(List Nat->Prop)->Prop
 |[],k=>k []
 |0::r,k=>ed r fun r=>k (0::r)
 |(n+1)::r,k=>ed r fun r=>k ((n+1)::r)
def tV(c:Operand)(v:Bool)(s:St):St:=
 match c with
 |.tmp t=>⟨fb s.t t (.bool v),s.b⟩
 |_=>s
structure KL where
 m1:Nat
 src:Operand
 it:Nat
 t:Nat
 nx:Nat
 c:Nat
 en:Nat
 k1:Nat
 kv:Nat
 d1:Nat
 dst:Nat
 k2:Nat
 t2:Nat
 n:Int
def KL.wr(L:KL):List Nat:=[L.m1,L.it,L.nx,L.c,L.en,L.k1,L.kv,L.d1,L.k2]
def kh:Code->Code->Option KL
 |.region _ r1 false,.block x (.loop (.seq (.region _ r2 false) (.seq (.cond (.tmp c) .skip (.exit x2)) (.block _ (.seq (.region _ r3 false) (.region _ r4 false))))))=>
  match r1.toList,r2.toList,r3.toList,r4.toList with
  |[⟨some m1,.move src,_,_,_,none⟩,⟨some it,.range t (.tmp m1'),_,_,_,none⟩],
   [⟨some nx,.next (.tmp it') false,_,_,_,none⟩,⟨some c',.extract (.tmp nx') 0,_,_,_,none⟩],
   [⟨some en,.entry (.tmp it''),_,_,_,none⟩,⟨some k1,.extract (.tmp en') 0,_,_,_,none⟩,⟨some kv,.assign (.tmp k1'),_,_,_,none⟩],
   [⟨some d1,.move (.tmp dst),_,_,_,none⟩,⟨some k2,.move (.tmp kv'),_,_,_,none⟩,⟨none,.mapUpdate t2 (.tmp d1') (.tmp k2') (.const (.int .i64 n)),_,_,_,none⟩]=>
   if x2 ==x&&m1' ==m1&&it' ==it&&it'' ==it&&nx' ==nx&&c' ==c&&en' ==en&&k1' ==k1&&kv' ==kv&&d1' ==d1&&k2' ==k2&&okC .i64 n
    && aF [m1,it,nx,c,en,k1,kv,d1,k2,dst]then
    some ⟨m1,src,it,t,nx,c,en,k1,kv,d1,dst,k2,t2,n⟩else none
  |_,_,_,_=>none
 |_,_=>none
def sk(C:Cfg)(L:KL)(s:St)(Q:SX->St->Prop):Prop:=
 match opd (aE s.t) L.src,aE s.t L.dst with
 |.map i,.map j=>
  match ae s.b i,ae s.b j,ak C.tbl L.t,ak C.tbl L.t2 with
  |some (.map .str _ m),some (.map .str (.int .i64) d),some ⟨.map _ _,_,_,_,_⟩,some ⟨.map kt _,_,_,_,_⟩=>
   (match ak C.tbl kt with
   |some rk=>
    if(fJ C rk.ti .str&&!(i ==j))=true then
     ∀d':List (Str×Int),(d'.map (·.1)).Nodup->(∀k,cd d' k=if(cd m k).isSome=true then some L.n else cd d k)->
      Q .normal ⟨s.t.filter fun x=>!L.wr.contains x.1,jF s.b j (.map .str (.int .i64) d')⟩
    else False
   |none=>False)
  |_,_,_,_=>False
 |_,_=>False
def jQ(C:Cfg)(keep:List Nat)(ops:Array Oper)(draw:Bool)(s:St)(Q:SX->St->Prop):Prop:=
 aU C ops.toList draw (fun v s=>dh s fun s=>forceV v fun v=>Q (.pan v) s) ops.toList 0 s [] fun s' fs=>v8 s' fun s'=>dh (trim keep s') fun s'=>
  if draw then(if bZ ops.toList fs then Q .normal s' else False)else Q .normal s'
def vc(C:Cfg)(keep:List Nat)(ops:Array Oper)(draw:Bool)(s:St):Option (Prop×(Bool->St)):=
 match draw,ops.toList with
 |false,[⟨some m,.move src,_,_,_,none⟩,⟨some c,.binOp .eql t (.tmp m') (.const (.slice none 0 0)) _,_,_,_,none⟩]=>
  (match Nat.beq m' m&&!Nat.beq c m,ak C.tbl t,opd (aE s.t) src with
  |true,some ⟨.slice _,_,_,_,_⟩,.lst I xs _=>some (xs=[],fun b=>trim keep ⟨fb (fb s.t m (.lst I xs none)) c (.bool b),s.b⟩)
  |_,_,_=>none)
 |_,_=>none
def swp(C:Cfg)(keep:List Nat)(ann:An):Code->St->(SX->St->Prop)->Prop
 |.skip,s,Q=>Q .normal s
 |.seq a b,s,Q=>
  match kh a b with
  |some L=>sk C L s fun x s=>dh s fun s=>Q x s
  |none=>
   match(bQ b).bind fun r=>sg ann.j (100000+r)with
   |none=>swp C keep ann a s fun
    |.normal,s'=>swp C keep ann b s' Q
    |e,s'=>Q e s'
   |some J=>swp C keep ann a s (fun x s'=>match x with|.normal=>cS s' (fk (bq a) s (J s).1 (J s).2)|e=>Q e s')/\
     dh (fk (bq a) s (J s).1 (J s).2) fun i=>swp C keep ann b i Q
 |.cond c a b,s,Q=>
  match opd (aE s.t) c with
  |.bool b'=>sp b' (swp C keep ann a (tV c true s) Q) (swp C keep ann b (tV c false s) Q)
  |_=>False
 |.block id c,s,Q=>swp C keep ann c s fun
  |.exit j,s'=>if j ==id then Q .normal s' else Q (.exit j) s'
  |e,s'=>Q e s'
 |.exit id,s,Q=>Q (.exit id) s
 |.scope c,s,Q=>swp C keep ann c s Q
 |.label _,s,Q=>Q .normal s
 |.ret,s,Q=>Q .ret s
 |.region id ops draw,s,Q=>
  match vc C keep ops draw s with
  |some (p,f)=>∀b:Bool,(b=true->p)->dh (f b) fun s=>Q .normal s
  |none=>
  match iP (sh ann.p id) s with
  |none=>False
  |some s=>
   match enter ops.toList s with
   |none=>False
   |some s=>
    match sg ann.j id with
    |none=>jQ C keep ops draw s Q
    |some J=>jQ C keep ops draw s (fun x s'=>match x with|.normal=>cS s' (fk (bq (.region id ops draw)) s (J s).1 (J s).2)|e=>Q e s')/\
      dh (fk (bq (.region id ops draw)) s (J s).1 (J s).2) fun i=>Q .normal i
 |.loop c,s,Q=>
  match((bQ c).bind (uL ann.l)).map (fun A=>A s)with
  |none=>False
  |some A=>
   (∃x,A.pre x/\dh (fk (bq c) s (A.t x) (A.b x)) fun i=>cS s i)/\
   ∀x,A.pre x->dh (fk (bq c) s (A.t x) (A.b x)) fun i=>swp C keep ann c i fun
    |.normal,s'=>∃y,A.pre y/\A.m y<A.m x/\dh (fk (bq c) s (A.t y) (A.b y)) fun i=>cS s' i
    |e,s'=>Q e s'
 |_,_,_=>False
def fK(tbl:List (Nat×TR))(s:St):List ResultVar->Option (List AV)
 |[]=>some []
 |.tmp t::r=>(match fK tbl s r with|some l=>some (aE s.t t::l)|none=>none)
 |.cell a t::r=>
  (match aE s.t a,ak tbl t with
   |.ptr id off,some rt=>
    (match ae s.b id with
    |some (.box c)=>(match gO rt c off,fK tbl s r with|some v,some l=>some (v::l)|_,_=>none)
    |_=>none)
   |_,_=>none)
def bk:Nat->List AV->List (Nat×AV)
 |_,[]=>[]
 |i,a::r=>(i,a)::bk (i+1) r
def lQ(res:Option (List AV))(s:St)(val:AV)(b:List (Nat×SObj)):Prop:=
 match res with
 |some [a]=>cS ⟨[(0,a)],s.b⟩ ⟨[(0,val)],b⟩
 |some l=>(match val with|.tup rs=>if cA l rs.length then cS ⟨bk 0 l,s.b⟩ ⟨bk 0 rs,b⟩else False|_=>False)
 |none=>False
def aR(n:Nat):Code->Bool
 |.region _ ops _=>ops.toList.all fun o=>match o.dst with|some d=>Nat.blt d n|none=>true
 |.seq a b=>aR n a&&aR n b
 |.cond _ a b=>aR n a&&aR n b
 |.block _ c=>aR n c
 |.loop c=>aR n c
 |.scope c=>aR n c
 |_=>true
def fwp(C:Cfg)(ann:An)(fn:Func)(args:List AV)(S:List (Nat×SObj))(A:Ans):Prop:=
 match fn.body with
 |none=>False
 |some c=>
  match aR fn.ntmps c&&gM args fn.ntmps&&(ao S).all aP with
  |false=>False
  |true=>ed (vb fn c) fun keep=>dh ⟨bk 0 args,S⟩ fun i=>swp C keep ann c i fun
   |.exit _,_=>False
   |.pan v,s=>(match A.pan with|some (b,pv,u)=>b=true/\cS ⟨[(0,v)],s.b⟩ ⟨[(0,pv)],b5 S u⟩|none=>False)
   |_,s=>(match A.pan with|some (b,_,_)=>b=false|none=>True)/\lQ (fK C.tbl s fn.results.toList) s A.val (b5 S A.upd)
end Go.AL
end
noncomputable section
namespace Go.AL
inductive CObj where
 |box (b off len:Nat)
 |tail (n:Nat) (base:Option Nat) (cap:Nat)
 |obj (r:Nat)
 |bld (b:Nat) (g:Option Nat)
structure Om where
 e:Nat->Option CObj
 w:World
 pub:Nat->Nat->Prop
def bX:Option Nat->Option Addr
 |none=>none
 |some b=>some ⟨b,0,none⟩
def aS:Nat:=9223372036854775807
def di(E:Om)(o:Option Nat)(n:Nat)(v:Value):Prop:=
 ∀id,o=some id->∃m base cap,E.e id=some (.tail m base cap)/\n<=m/\(n=m->v=.slice (bX base) n cap)
def jR(E:Om)(I:Ty)(n k:Nat)(p:Option Addr):Prop:=
 ∃m base cap,E.e k=some (.tail m base cap)/\n+1<=m/\(n+1=m->∃b,base=some b/\p=some ⟨b,n *a8 I,none⟩)
inductive V(E:Om):AV->Value->Prop
 |undef (v:Value):V E .undef v
 |int (k:IntKind) (n:Int):k.min<=n->n<=k.max->V E (.int k n) (.int k n)
 |bool (b:Bool):V E (.bool b) (.bool b)
 |str (s:Str):s.length<=aS->V E (.str s) (.string ⟨s.toArray⟩)
 |lstNil (I:Ty) (o:Option Nat):di E o 0 (.slice none 0 0)->V E (.lst I [] o) (.slice none 0 0)
 |lst (I:Ty) (xs:List (den I)) (o:Option Nat) (b off cap:Nat) (vals:Nat->Nat->Value) :
   xs.length<=cap->cap<=aS->di E o xs.length (.slice (some ⟨b,off,none⟩) xs.length cap)->
   (∀(i:Nat)(x:den I),xs[i]?=some x->∀(j:Nat)(c:AV),(cells I x)[j]?=some c->
    E.pub b (off+(i *a8 I+j))/\E.w.cell? ⟨b,off+(i *a8 I+j),none⟩=some (vals i j))->
   (∀(i:Nat)(x:den I),xs[i]?=some x->∀(j:Nat)(c:AV),(cells I x)[j]?=some c->V E c (vals i j))->
   V E (.lst I xs o) (.slice (some ⟨b,off,none⟩) xs.length cap)
 |lstVoid (I:Ty) (a:Addr):V E (.lst I [] none) (.slice (some a) 0 0)
 |nils:V E .nils (.slice none 0 0)
 |ptr (id off b o len:Nat):E.e id=some (.box b o len)->V E (.ptr id off) (.pointer (some ⟨b,o+off,none⟩))
 |cptr (c:AV) (b off:Nat) (vals:Nat->Value) :
   (∀(j:Nat)(c':AV),(a7 c)[j]?=some c'->E.pub b (off+j)/\E.w.cell? ⟨b,off+j,none⟩=some (vals j))->
   (∀(j:Nat)(c':AV),(a7 c)[j]?=some c'->V E c' (vals j))->
   V E (.cptr c) (.pointer (some ⟨b,off,none⟩))
 |nilp:V E .nilp (.pointer none)
 |ptNone (n:SN):V E (.pt n none) (.pointer none)
 |ptSome (n:SN) (x:SD n) (v:Value):V E (.cptr (.st n x)) v->V E (.pt n (some x)) v
 |arr (id n w b len cap:Nat) (a:Option Addr):E.e id=some (.box b 0 len)->n *w<=len->n<=cap->cap<=aS->(a=some ⟨b,0,none⟩∨a=none/\n=0/\cap=0)->
   V E (.arr id n w) (.slice a n cap)
 |aptr (id i w off b o len:Nat):E.e id=some (.box b o len)->V E (.aptr id i w off) (.pointer (some ⟨b,o+(i *w+off),none⟩))
 |map (id r:Nat):E.e id=some (.obj r)->V E (.map id) (.map (some r))
 |bptr (id b:Nat) (g:Option Nat):E.e id=some (.bld b g)->V E (.bptr id) (.pointer (some ⟨b,0,none⟩))
 |iface (t:Nat) (a:AV) (v:Value):V E a v->V E (.iface t a) (.iface t v)
 |nilif:V E .nilif .nilIface
 |nilm:V E .nilm (.map none)
 |lstp (I:Ty) (xs:List (den I)) (k b off cap:Nat) (vals:Nat->Nat->Value) :
   xs.length+1<=cap->cap<=aS->di E (some k) (xs.length+1) (.slice (some ⟨b,off,none⟩) (xs.length+1) cap)->
   (∀(i:Nat)(x:den I),xs[i]?=some x->∀(j:Nat)(c:AV),(cells I x)[j]?=some c->
    E.pub b (off+(i *a8 I+j))/\E.w.cell? ⟨b,off+(i *a8 I+j),none⟩=some (vals i j))->
   (∀(i:Nat)(x:den I),xs[i]?=some x->∀(j:Nat)(c:AV),(cells I x)[j]?=some c->V E c (vals i j))->
   V E (.lstp I xs k) (.slice (some ⟨b,off,none⟩) (xs.length+1) cap)
 |tptr (I:Ty) (n k:Nat) (p:Option Addr):jR E I n k p->V E (.tptr I n k) (.pointer p)
 |st (n:SN) (x:SD n) (v:Value):V E (.agg (cells (.st n) x)) v->V E (.st n x) v
 |agg (cs:List AV) (vs:List Value):cs.length=vs.length->(∀(j:Nat)(c:AV)(v:Value),cs[j]?=some c->vs[j]?=some v->V E c v)->
   V E (.agg cs) (.agg vs.toArray)
 |tup (cs:List AV) (vs:List Value):cs.length=vs.length->(∀(j:Nat)(c:AV)(v:Value),cs[j]?=some c->vs[j]?=some v->V E c v)->
   V E (.tup cs) (.tuple vs.toArray)
 |fn (f:Nat) (cs:List AV) (vs:List Value):cs.length=vs.length->(∀(j:Nat)(c:AV)(v:Value),cs[j]?=some c->vs[j]?=some v->V E c v)->
   V E (.fn f cs) (.func (.func f) #[] vs.toArray)
def VL(E:Om)(cs:List AV)(vs:List Value):Prop:=cs.length=vs.length/\∀(j:Nat)(c:AV)(v:Value),cs[j]?=some c->vs[j]?=some v->V E c v
def CLe:CObj->CObj->Prop
 |.box b o l,.box b' o' l'=>b=b'/\o=o'/\l=l'
 |.tail n base cap,.tail n' base' cap'=>n<=n'/\(n=n'->base=base'/\cap=cap')
 |.obj r,.obj r'=>r=r'
 |.bld b _,.bld b' _=>b=b'
 |_,_=>False
theorem CLe.refl(c:CObj):CLe c c:=by cases c<;>simp[CLe]
theorem CLe.box{b o l:Nat}{c:CObj}(h:CLe (.box b o l) c):c=.box b o l:=by cases c<;>simp[CLe]at h;obtain⟨rfl,rfl,rfl⟩:=h;rfl
theorem CLe.obj{r:Nat}{c:CObj}(h:CLe (.obj r) c):c=.obj r:=by cases c<;>simp[CLe]at h;subst h;rfl
theorem CLe.bld{b:Nat}{g:Option Nat}{c:CObj}(h:CLe (.bld b g) c):∃g',c=.bld b g':=by cases c<;>simp[CLe]at h;subst h;exact⟨_,rfl⟩
theorem CLe.trans{a b c:CObj}(h:CLe a b)(k:CLe b c):CLe a c:=by
 cases a<;>cases b<;>cases c<;>simp_all [CLe];rename_i n1 b1 c1 n2 b2 c2 n3 b3 c3;obtain⟨h1,h2⟩:=h;obtain⟨k1,k2⟩:=k;refine⟨by omega,fun e=>?_⟩;have e1:n1=n2:=by omega
 have e2:n2=n3:=by omega
 obtain⟨h3,h4⟩:=h2 e1;obtain⟨k3,k4⟩:=k2 e2;exact⟨h3.trans k3,h4.trans k4⟩
structure Ext(E E':Om):Prop where
 e:∀id c,E.e id=some c->∃c',E'.e id=some c'/\CLe c c'
 pub:∀b o,E.pub b o->E'.pub b o
 cell:∀b o,E.pub b o->E'.w.cell? ⟨b,o,none⟩=E.w.cell? ⟨b,o,none⟩
theorem Ext.refl(E:Om):Ext E E:=⟨fun _ c h=>⟨c,h,CLe.refl c⟩,fun _ _ h=>h,fun _ _ _=>rfl⟩
theorem di.ext{E E':Om}(h:Ext E E'){o:Option Nat}{n:Nat}{v:Value}(t:di E o n v):di E' o n v:=by
 intro id hid;obtain⟨m,base,cap,he,hle,hv⟩:=t id hid;obtain⟨c',hc',hl⟩:=h.e id _ he
 cases c' with
 |box b o l=>simp[CLe]at hl
 |obj r=>simp[CLe]at hl
 |bld b g=>simp[CLe]at hl
 |tail m' base' cap'=>obtain⟨h1,h2⟩:=hl;refine⟨m',base',cap',hc',by omega,fun e=>?_⟩;obtain⟨e1,e2⟩:=h2 (by omega);rw[hv (by omega),e1,e2]
theorem jR.ext{E E':Om}(h:Ext E E'){I:Ty}{n k:Nat}{p:Option Addr}(t:jR E I n k p):jR E' I n k p:=by
 obtain⟨m,base,cap,he,hle,hv⟩:=t;obtain⟨c',hc',hl⟩:=h.e k _ he
 cases c' with
 |box b o l=>simp[CLe]at hl
 |obj r=>simp[CLe]at hl
 |bld b g=>simp[CLe]at hl
 |tail m' base' cap'=>obtain⟨h1,h2⟩:=hl;refine⟨m',base',cap',hc',by omega,fun e=>?_⟩;obtain⟨e1,e2⟩:=h2 (by omega);rw[<-e1];exact hv (by omega)
theorem V.ext{E E':Om}(h:Ext E E'){a:AV}{v:Value}(hv:V E a v):V E' a v:=by
 induction hv with
 |undef v=>exact .undef v
 |int k n h1 h2=>exact .int k n h1 h2
 |bool b=>exact .bool b
 |str s hs=>exact .str s hs
 |lstNil I o ht=>exact .lstNil I o (ht.ext h)
 |lstVoid I a=>exact .lstVoid I a
 |lst I xs o b off cap vals h1 h2 h3 h4 h5 ih=>
  exact .lst I xs o b off cap vals h1 h2 (h3.ext h)
   (fun i x hx j c hc=>⟨h.pub _ _ (h4 i x hx j c hc).1,(h.cell _ _ (h4 i x hx j c hc).1).trans (h4 i x hx j c hc).2⟩) ih
 |nils=>exact .nils
 |ptr id off b o len he=>obtain⟨c',hc',hl⟩:=h.e id _ he;exact .ptr id off b o len (by rw[hc',hl.box])
 |ptNone n=>exact .ptNone n
 |ptSome n x v _ ih=>exact .ptSome n x v ih
 |arr id n w b len cap a he h1 h2 h3 h4=>obtain⟨c',hc',hl⟩:=h.e id _ he;exact .arr id n w b len cap a (by rw[hc',hl.box]) h1 h2 h3 h4
 |aptr id i w off b o len he=>obtain⟨c',hc',hl⟩:=h.e id _ he;exact .aptr id i w off b o len (by rw[hc',hl.box])
 |map id r he=>obtain⟨c',hc',hl⟩:=h.e id _ he;exact .map id r (by rw[hc',hl.obj])
 |bptr id b g he=>obtain⟨c',hc',hl⟩:=h.e id _ he;obtain⟨g',rfl⟩:=hl.bld;exact .bptr id b g' hc'
 |iface t a v _ ih=>exact .iface t a v ih
 |nilif=>exact .nilif
 |nilm=>exact .nilm
 |lstp I xs k b off cap vals h1 h2 h3 h4 h5 ih=>
  exact .lstp I xs k b off cap vals h1 h2 (h3.ext h)
   (fun i x hx j c hc=>⟨h.pub _ _ (h4 i x hx j c hc).1,(h.cell _ _ (h4 i x hx j c hc).1).trans (h4 i x hx j c hc).2⟩) ih
 |tptr I n k p hp=>exact .tptr I n k p (hp.ext h)
 |st n x v _ ih=>exact .st n x v ih
 |cptr cs b off vals h1 h2 ih=>exact .cptr cs b off vals (fun j c hc=>⟨h.pub _ _ (h1 j c hc).1,(h.cell _ _ (h1 j c hc).1).trans (h1 j c hc).2⟩) ih
 |nilp=>exact .nilp
 |agg cs vs hl _ ih=>exact .agg cs vs hl ih
 |tup cs vs hl _ ih=>exact .tup cs vs hl ih
 |fn f cs vs hl _ ih=>exact .fn f cs vs hl ih
theorem VL.ext{E E':Om}(h:Ext E E'){cs:List AV}{vs:List Value}(hv:VL E cs vs):VL E' cs vs:=
 ⟨hv.1,fun j c v hc hw=>(hv.2 j c v hc hw).ext h⟩
theorem VL.nil{E:Om}:VL E [] []:=⟨rfl,fun _ _ _ h=>by simp at h⟩
theorem VL.cons{E:Om}{c:AV}{cs:List AV}{v:Value}{vs:List Value}(h:V E c v)(hs:VL E cs vs):VL E (c::cs) (v::vs):=by
 refine⟨by simp[hs.1],fun j d u hd hu=>?_⟩
 cases j with|zero=>simp at hd hu;subst hd hu;exact h|succ j=>simp at hd hu;exact hs.2 j d u hd hu
theorem VL.head{E:Om}{c:AV}{cs:List AV}{v:Value}{vs:List Value}(h:VL E (c::cs) (v::vs)):V E c v:=h.2 0 c v rfl rfl
theorem VL.tail{E:Om}{c:AV}{cs:List AV}{v:Value}{vs:List Value}(h:VL E (c::cs) (v::vs)):VL E cs vs:=
 ⟨by have:=h.1;simp at this;exact this,fun j d u hd hu=>h.2 (j+1) d u (by simpa using hd) (by simpa using hu)⟩
theorem VL.cases{E:Om}{cs:List AV}{vs:List Value}(h:VL E cs vs) :
  (cs=[]/\vs=[])∨∃c cs' v vs',cs=c::cs'/\vs=v::vs'/\V E c v/\VL E cs' vs':=by
 cases cs with
 |nil=>left;exact⟨rfl,wi (by rw[<-h.1];rfl)⟩
 |cons c cs=>
  cases vs with|nil=>exact absurd h.1 (by simp)|cons v vs=>exact Or.inr ⟨c,cs,v,vs,rfl,rfl,h.head,h.tail⟩
theorem VL.append{E:Om}{cs ds:List AV}{vs us:List Value}(h:VL E cs vs)(k:VL E ds us):VL E (cs++ds) (vs++us):=by
 refine⟨by simp[h.1,k.1],fun j c v hc hv=>?_⟩;by_cases hj:j<cs.length
 ·rw[w6 hj]at hc;rw[w6 (by rw[<-h.1];exact hj)]at hv;exact h.2 j c v hc hv
 ·rw[w8 (by omega)]at hc;rw[w8 (by rw[<-h.1];omega),<-h.1]at hv;exact k.2 _ c v hc hv
theorem V.agg_inv{E:Om}{cs:List AV}{v:Value}(h:V E (.agg cs) v):∃vs,v=.agg vs.toArray/\VL E cs vs:=by
 cases h with|agg _ vs h1 h2=>exact⟨vs,rfl,h1,h2⟩
theorem V.tup_inv{E:Om}{cs:List AV}{v:Value}(h:V E (.tup cs) v):∃vs,v=.tuple vs.toArray/\VL E cs vs:=by
 cases h with|tup _ vs h1 h2=>exact⟨vs,rfl,h1,h2⟩
theorem V.of_agg{E:Om}{cs:List AV}{vs:List Value}(h:VL E cs vs):V E (.agg cs) (.agg vs.toArray):=.agg cs vs h.1 h.2
theorem V.of_tup{E:Om}{cs:List AV}{vs:List Value}(h:VL E cs vs):V E (.tup cs) (.tuple vs.toArray):=.tup cs vs h.1 h.2
theorem aA(I:Ty)(x:den I):(cells I x).length=a8 I:=by
 cases I with
 |st n=>cases n<;>rfl
 |_=>rfl
theorem ki(I:Ty)(x:den I):(cells I x).all fc=true:=by
 cases I with
 |st n=>cases n<;>rfl
 |_=>rfl
theorem aQ(I:Ty):∀xs:List (den I),(aH I xs).length=xs.length *a8 I
 |[]=>by simp[aH]
 |x::xs=>by have:=aQ I xs;simp only[aH,xR,xL,aA,wo]at this⊢;rw[this,wD];omega
theorem eK(I:Ty):0<a8 I:=by
 cases I with
 |st n=>cases n<;>simp[a8]
 |_=>simp[a8]
theorem dT(I:Ty):∀(xs:List (den I))(i:Nat)(x:den I)(j:Nat)(c:AV),xs[i]?=some x->(cells I x)[j]?=some c->(aH I xs)[i *a8 I+j]?=some c
 |[],i,x,j,c,h,_=>by simp at h
 |y::ys,0,x,j,c,h,hc=>by
  simp at h;subst h
  have hj:j<(cells I y).length:=by
   rcases w4 j (cells I y).length with k|k
   ·exact k
   ·rw[vX k]at hc;cases hc
  simp only[aH,xR,Nat.zero_mul,xf];rw[w6 hj];exact hc
 |y::ys,i+1,x,j,c,h,hc=>by simp at h;have:=dT I ys i x j c h hc;simp only[aH,xR]at this⊢;rw[w8 (by rw[aA,wD];omega),aA];rw[show(i+1) *a8 I+j-a8 I=i *a8 I+j from by rw[wD];omega];exact this
theorem ct(I:Ty)(xs ys:List (den I)):aH I (xs++ys)=aH I xs++aH I ys:=by simp[aH]
theorem qS(I:Ty)(xs:List (den I)):(aH I xs).all fc=true:=by simp only[aH,List.all_flatMap];exact wk.2 fun x _=>ki I x
theorem V.parts{E:Om}{a:AV}{v:Value}(h:V E a v)(hl:(a7 a).all fc=true):VL E (a7 a) v.cells.toList:=by
 cases h with
 |agg cs vs h1 h2=>exact⟨h1,h2⟩
 |undef v=>simp[a7,fc]at hl
 |tup cs vs h1 h2=>simp[a7,fc]at hl
 |int k n h1 h2=>exact VL.cons (.int k n h1 h2) .nil
 |bool b=>exact VL.cons (.bool b) .nil
 |str s hs=>exact VL.cons (.str s hs) .nil
 |lstNil I o ht=>exact VL.cons (.lstNil I o ht) .nil
 |lstVoid I a=>exact VL.cons (.lstVoid I a) .nil
 |lst I xs o b off cap vals h1 h2 h3 h4 h5=>exact VL.cons (.lst I xs o b off cap vals h1 h2 h3 h4 h5) .nil
 |nils=>exact VL.cons .nils .nil
 |ptr id off b o len hb=>exact VL.cons (.ptr id off b o len hb) .nil
 |ptNone n=>exact VL.cons (.ptNone n) .nil
 |ptSome n x v hv=>
  have hv':=hv
  cases hv with|cptr _ b off vals h1 h2=>exact VL.cons (.ptSome n x _ hv') .nil
 |arr id n w b len cap a h1 h2 h3 h4 h5=>exact VL.cons (.arr id n w b len cap a h1 h2 h3 h4 h5) .nil
 |aptr id i w off b o len h1=>exact VL.cons (.aptr id i w off b o len h1) .nil
 |map id r h1=>exact VL.cons (.map id r h1) .nil
 |bptr id b g h1=>exact VL.cons (.bptr id b g h1) .nil
 |iface t a v hv=>exact VL.cons (.iface t a v hv) .nil
 |nilif=>exact VL.cons .nilif .nil
 |nilm=>exact VL.cons .nilm .nil
 |lstp I xs k b off cap vals h1 h2 h3 h4 h5=>exact VL.cons (.lstp I xs k b off cap vals h1 h2 h3 h4 h5) .nil
 |tptr I n k p hp=>exact VL.cons (.tptr I n k p hp) .nil
 |cptr cs b off vals h1 h2=>exact VL.cons (.cptr cs b off vals h1 h2) .nil
 |st n x v h1=>obtain⟨vs,rfl,hv⟩:=h1.agg_inv;exact hv
 |nilp=>exact VL.cons .nilp .nil
 |fn f cs vs h1 h2=>exact VL.cons (.fn f cs vs h1 h2) .nil
theorem V.leaf_one{E:Om}{a:AV}{v:Value}(h:V E a v)(hl:fc a=true):v.oneCell'=true:=by
 cases h with
 |ptSome n x v hv=>cases hv;rfl
 |undef v=>cases hl
 |agg cs vs h1 h2=>cases hl
 |tup cs vs h1 h2=>cases hl
 |st n x v h1=>cases hl
 |_=>rfl
theorem VL.leaf_one{E:Om}{cs:List AV}{vs:List Value}(h:VL E cs vs)(hl:cs.all fc=true):∀v∈vs,v.oneCell'=true:=by
 intro v hv;obtain⟨j,hj,e⟩:=yr.1 hv;have hj':j<cs.length:=by rw[h.1];exact hj
 have hc:cs[j]?=some cs[j]:=vV hj';have hw:vs[j]?=some v:=by rw[vV hj,e]
 exact(h.2 j _ _ hc hw).leaf_one (wk.1 hl _ (yn hj'))
end Go.AL
end
noncomputable section
namespace Go.AL
structure AS where
 T:Nat->AV
 B:Nat->Option SObj
def St.abs(s:St):AS:=⟨aE s.t,ae s.b⟩
def occ:CObj->Nat->Nat->Prop
 |.box b off len,b',o=>b'=b/\off<=o/\o<off+len
 |.tail _ base _,b',_=>base=some b'
 |.obj r,b',_=>b'=r
 |.bld b g,b',_=>b'=b∨g=some b'
class Tabs where
 tab:Nat->Nat->Value->Prop
 obj:Nat->Obj->Prop
abbrev oY:Tabs:=⟨fun _ _ _=>False,fun _ _=>False⟩
variable [Tabs]
def gL(e:Nat->Option CObj)(b o:Nat):Prop:=∃id c,e id=some c/\occ c b o
def dU(w:World)(pub:Nat->Nat->Prop)(e:Nat->Option CObj):Prop:=
 (∀b o v,Tabs.tab b o v->pub b o/\w.cell? ⟨b,o,none⟩=some v)/\∀b x,Tabs.obj b x->w.heap[b]?=some x/\∀o,¬gL e b o
structure Fr where
 w0:World
 pub0:Nat->Nat->Prop
 n:Nat
 e0:Nat->Option CObj
 dom0:∀id c,e0 id=some c->aP id=true
 ds:List Deferred
 tab0:dU w0 pub0 e0
def Fr.br(F:Fr)(b o:Nat):Prop:=gL F.e0 b o
def Fr.own(F:Fr)(b o:Nat):Prop:=F.w0.heap.size<=b∨F.br b o
structure MapOK(E:Om)(U I:Ty)(m:List (den U×den I))(es:Array MapEntry)(clock:Nat):Prop where
 size:es.size=m.length
 ent:∀(i:Nat)(e:MapEntry)(x:den U×den I),es[i]?=some e->m[i]?=some x->V E (inj U x.1) e.key/\V E (inj I x.2) e.val
 keys:(m.map (·.1)).Nodup
 born:∀(i:Nat)(e:MapEntry),es[i]?=some e->e.born<clock
 rise:∀(i j:Nat)(e f:MapEntry),es[i]?=some e->es[j]?=some f->i<j->e.born<f.born
def lR(w:World)(t u b:Nat)(g:Option Nat)(l:Str):Prop:=
 ∃p v,w.heap[b]?=some (.cells #[p,v] t (0,0))/\(p=.pointer none∨p=.pointer (some ⟨b,0,none⟩))/\v.ownBlock=g/\g≠some b/\w.ownsRowF 0 u 1 v l.length (Lib.byteCells l)/\(l=[]->v=.slice none 0 0)
theorem lR.congr{w w':World}{t u b:Nat}{g:Option Nat}{l:Str}(h:lR w t u b g l)(hb:∀b',(b'=b∨g=some b')->w'.heap[b']?=w.heap[b']?):lR w' t u b g l:=by
 obtain⟨p,v,h1,h2,h3,h4,⟨h5,h6⟩,h7⟩:=h;refine⟨p,v,by rw[hb b (.inl rfl),h1],h2,h3,h4,⟨h5,?_⟩,h7⟩;rcases h6 with h6|⟨g',cap,cur,fz,rfl,k1,k2,k3⟩
 ·exact .inl h6
 ·refine .inr ⟨g',cap,cur,fz,rfl,k1,?_,k3⟩;rw[hb g' (.inr (by rw[<-h3];rfl)),k2]
theorem lR.lt{w:World}{t u b:Nat}{g:Option Nat}{l:Str}(h:lR w t u b g l){b':Nat}(hb:b'=b∨g=some b'):b'<w.heap.size:=by
 obtain⟨p,v,h1,h2,h3,h4,h5,_⟩:=h;rcases hb with rfl|hb
 ·exact(xu.1 h1).1
 ·exact(h5.lt b' (by rw[h3,hb])).2
def aL(E:Om)(own:Nat->Nat->Prop)(id:Nat):SObj->Prop
 |.box c=>∃b off,E.e id=some (.box b off (a7 c).length)/\∀(j:Nat)(c':AV),(a7 c)[j]?=some c'->
   own b (off+j)/\¬E.pub b (off+j)/\E.w.frozen? ⟨b,off+j,none⟩=false/\∃v,E.w.cell? ⟨b,off+j,none⟩=some v/\V E c' v
 |.tail I n=>∃base cap,E.e id=some (.tail n base cap)/\n<=cap/\cap<=aS/\
   (base=none->cap=0)/\
   ∀b,base=some b->(∀o,own b o)/\∃vs ty fz,E.w.heap[b]?=some (.cells vs ty fz)/\fz.2=0/\cap *a8 I<=vs.size/\∀o,n *a8 I<=o->¬E.pub b o
 |.map U I m=>∃r,E.e id=some (.obj r)/\(∀o,own r o)/\∃es clock,E.w.heap[r]?=some (.map es clock)/\MapOK E U I m es clock
 |.tailp I n x=>∃b cap,E.e id=some (.tail (n+1) (some b) cap)/\n+1<=cap/\cap<=aS/\(∀o,own b o)/\
   (∃vs ty fz,E.w.heap[b]?=some (.cells vs ty fz)/\fz.2=0/\cap *a8 I<=vs.size)/\(∀o,n *a8 I<=o->¬E.pub b o)/\
   ∀(j:Nat)(c:AV),(cells I x)[j]?=some c->∃v,E.w.cell? ⟨b,n *a8 I+j,none⟩=some v/\V E c v
 |.bld t u l=>∃b g,E.e id=some (.bld b g)/\(∀b',(b'=b∨g=some b')->∀o,own b' o/\¬E.pub b' o)/\lR E.w t u b g l
structure FrameOK(F:Fr)(E:Om):Prop where
 os:E.w.os=F.w0.os
 tape:E.w.tape=F.w0.tape
 output:E.w.output=F.w0.output
 size:F.w0.heap.size<=E.w.heap.size
 block:∀b,b<F.w0.heap.size->(∀o,¬F.br b o)->E.w.heap[b]?=F.w0.heap[b]?
 cell:∀b o,b<F.w0.heap.size->¬F.br b o->E.w.cell? ⟨b,o,none⟩=F.w0.cell? ⟨b,o,none⟩
 kind:∀b,b<F.w0.heap.size->¬(∀o,F.br b o)->E.w.shape? b=F.w0.shape? b/\∀o,E.w.frozen? ⟨b,o,none⟩=F.w0.frozen? ⟨b,o,none⟩
 pub:∀b o,E.pub b o->F.pub0 b o∨F.own b o
 old:∀b o,F.pub0 b o->E.pub b o
 pcell:∀b o,F.pub0 b o->E.w.cell? ⟨b,o,none⟩=F.w0.cell? ⟨b,o,none⟩
structure Holds(F:Fr)(s:AS)(a:Act)(E:Om):Prop where
 tmps:∀i,V E (s.T i) (a.tmps.getD i undef)
 size:a.tmps.size=F.n
 defers:a.defers=F.ds
 slots:∀id o,s.B id=some o->aL E F.own id o
 dom:∀id,s.B id=none->E.e id=none
 inj:∀i j c d b o,E.e i=some c->E.e j=some d->occ c b o->occ d b o->i=j
 pubok:∀b o,E.pub b o->∃v,E.w.cell? ⟨b,o,none⟩=some v
 keep:∀id c,F.e0 id=some c->∃c',E.e id=some c'/\CLe c c'
 frame:FrameOK F E
def aZ(T:Nat->AV)(d:Option Nat)(v:AV):Nat->AV:=
 match d with
 |some d=>fun i=>if d=i then v else T i
 |none=>T
theorem Holds.step{F:Fr}{s:AS}{a:Act}{E E':Om}{B':Nat->Option SObj}{dst:Option Nat}{val:AV}{v:Value}
 (h:Holds F s a E)(hx:Ext E E')(hv:V E' val v)(hd:∀d,dst=some d->d<F.n)
 (hs:∀id o,B' id=some o->aL E' F.own id o)(hdom:∀id,B' id=none->E'.e id=none)
 (hinj:∀i j c d b o,E'.e i=some c->E'.e j=some d->occ c b o->occ d b o->i=j)
 (hp:∀b o,E'.pub b o->∃v,E'.w.cell? ⟨b,o,none⟩=some v)(hf:FrameOK F E') :
  Holds F ⟨aZ s.T dst val,B'⟩ (a.put dst v) E':=by
 refine⟨fun i=>?_,?_,?_,hs,hdom,hinj,hp,fun id c hc=>let ⟨c1,h1,l1⟩:=h.keep id c hc;let ⟨c2,h2,l2⟩:=hx.e id c1 h1;⟨c2,h2,l1.trans l2⟩,hf⟩
 ·cases dst with
  |none=>exact(h.tmps i).ext hx
  |some d=>
   simp only[aZ,Act.put];have hdn:=hd d rfl;by_cases hi:d=i
   ·subst hi;rw[wh rfl];have:(a.tmps.setIfInBounds d v).getD d undef=v:=by simp[w9,h.size,hdn]
    rw[this];exact hv
   ·rw[w5 hi];have:(a.tmps.setIfInBounds d v).getD i undef=a.tmps.getD i undef:=by simp[w9,hi]
    rw[this];exact(h.tmps i).ext hx
 ·cases dst<;>simp[Act.put,h.size]
 ·cases dst<;>simp[Act.put,h.defers]
theorem Holds.pure{F:Fr}{s:AS}{a:Act}{E:Om}{dst:Option Nat}{val:AV}{v:Value}
 (h:Holds F s a E)(hv:V E val v)(hd:∀d,dst=some d->d<F.n):Holds F ⟨aZ s.T dst val,s.B⟩ (a.put dst v) E:=
 h.step (Ext.refl E) hv hd h.slots h.dom h.inj h.pubok h.frame
theorem bf{w:World}{b:Nat}{o:Obj}(h:w.heap[b]?=some o):b<w.heap.size:=by
 rcases w4 b w.heap.size with k|k
 ·exact k
 ·rw[wW k]at h;cases h
theorem ay{w:World}{b o:Nat}{v:Value}(h:w.cell? ⟨b,o,none⟩=some v):b<w.heap.size:=World.block_lt_of_cell? w ⟨b,o,none⟩ h
theorem ab{w w':World}{b:Nat}(h:w'.heap[b]?=w.heap[b]?)(o:Nat):w'.cell? ⟨b,o,none⟩=w.cell? ⟨b,o,none⟩:=by simp[World.cell?,h]
theorem az{w w':World}{b:Nat}(h:w'.heap[b]?=w.heap[b]?)(o:Nat):w'.frozen? ⟨b,o,none⟩=w.frozen? ⟨b,o,none⟩:=by simp[World.frozen?,h]
theorem aJ{w w':World}{b:Nat}(h:w'.heap[b]?=w.heap[b]?):w'.shape? b=w.shape? b:=by simp[World.shape?,h]
theorem al{w:World}{b:Nat}{vs:Array Value}{ty:Nat}{fz:Nat×Nat}(h:w.heap[b]?=some (.cells vs ty fz))(o:Nat) :
  w.cell? ⟨b,o,none⟩=vs[o]?:=by
 simp[World.cell?,h]
theorem cb{w:World}{b:Nat}{vs:Array Value}{ty:Nat}(h:w.heap[b]?=some (.cells vs ty (0,0)))(o:Nat) :
  w.frozen? ⟨b,o,none⟩=false:=by
 simp[World.frozen?,h]
theorem Holds.blk{F:Fr}{s:AS}{a:Act}{E:Om}(h:Holds F s a E){id b o:Nat}{c:CObj}(hc:E.e id=some c)(hb:occ c b o):b<E.w.heap.size:=by
 cases hB:s.B id with
 |none=>rw[h.dom id hB]at hc;cases hc
 |some ob=>
  have hs:=h.slots id ob hB
  cases ob with
  |box x=>
   obtain⟨b',off,he,hh⟩:=hs;rw[he]at hc;simp only[Xs]at hc;subst hc;obtain⟨rfl,h1,h2⟩:=hb;have hj:o-off<(a7 x).length:=by omega
   obtain⟨_,_,_,v,hv,_⟩:=hh (o-off) _ (vV hj);exact ay hv
  |tail I n=>obtain⟨base,cap,he,_,_,_,hb'⟩:=hs;rw[he]at hc;simp only[Xs]at hc;subst hc;obtain⟨_,vs,ty,fz,hh,_⟩:=hb' b hb;exact bf hh
  |map U I m=>obtain⟨r,he,_,es,clock,hh,_⟩:=hs;rw[he]at hc;simp only[Xs]at hc;subst hc;have:b=r:=hb;subst this;exact bf hh
  |bld t u l=>obtain⟨b0,g,he,_,hh⟩:=hs;rw[he]at hc;simp only[Xs]at hc;subst hc;exact hh.lt hb
  |tailp I n x=>
   obtain⟨b0,cap,he,_,_,_,⟨vs,ty,fz,hh,_⟩,_⟩:=hs;rw[he]at hc;simp only[Xs]at hc;subst hc;have:b0=b:=by simpa[occ]using hb
   subst this;exact bf hh
def iu(E E':Om):CObj->Prop
 |.box b off len=>∀o,off<=o->o<off+len->E'.w.cell? ⟨b,o,none⟩=E.w.cell? ⟨b,o,none⟩/\E'.w.frozen? ⟨b,o,none⟩=E.w.frozen? ⟨b,o,none⟩/\(E'.pub b o->E.pub b o)
 |.tail _ base _=>∀b,base=some b->E'.w.heap[b]?=E.w.heap[b]?/\∀o,E'.pub b o->E.pub b o
 |.obj r=>E'.w.heap[r]?=E.w.heap[r]?
 |.bld b g=>∀b',(b'=b∨g=some b')->E'.w.heap[b']?=E.w.heap[b']?/\∀o,E'.pub b' o->E.pub b' o
theorem iu.of_blocks{E E':Om}{c:CObj}(h:∀b o,occ c b o->E'.w.heap[b]?=E.w.heap[b]?/\∀o,E'.pub b o->E.pub b o):iu E E' c:=by
 cases c with
 |box b off len=>intro o h1 h2;obtain⟨k1,k2⟩:=h b o ⟨rfl,h1,h2⟩;exact⟨ab k1 o,az k1 o,k2 o⟩
 |tail n base cap=>exact fun b hb=>h b 0 hb
 |obj r=>exact(h r 0 rfl).1
 |bld b g=>exact fun b' hb=>h b' 0 hb
theorem MapOK.ext{E E':Om}(hx:Ext E E'){U I:Ty}{m:List (den U×den I)}{es:Array MapEntry}{clock:Nat}(h:MapOK E U I m es clock):MapOK E' U I m es clock:=
 ⟨h.size,fun i e x he hx'=>⟨(h.ent i e x he hx').1.ext hx,(h.ent i e x he hx').2.ext hx⟩,h.keys,h.born,h.rise⟩
theorem aL.keep{E E':Om}{own:Nat->Nat->Prop}{id:Nat}{o:SObj}(h:aL E own id o)(hx:Ext E E')(he:E'.e id=E.e id)
 (hk:∀c,E.e id=some c->iu E E' c):aL E' own id o:=by
 cases o with
 |box c=>
  obtain⟨b,off,h1,h2⟩:=h;refine⟨b,off,by rw[he,h1],fun j c' hc=>?_⟩;obtain⟨q1,q2,q3,v,q4,q5⟩:=h2 j c' hc
  have hj:j<(a7 c).length:=by
   rcases w4 j (a7 c).length with k|k
   ·exact k
   ·rw[vX k]at hc;cases hc
  obtain⟨k1,k2,k3⟩:=hk _ h1 (off+j) (by omega) (by omega);exact⟨q1,fun hp=>q2 (k3 hp),by rw[k2,q3],v,by rw[k1,q4],q5.ext hx⟩
 |tail I n=>obtain⟨base,cap,h1,h2,h3,h4,h5⟩:=h;refine⟨base,cap,by rw[he,h1],h2,h3,h4,fun b hbb=>?_⟩;obtain⟨o1,vs,ty,fz,o2,of,o3,o4⟩:=h5 b hbb;obtain⟨k1,k2⟩:=hk _ h1 b hbb;exact⟨o1,vs,ty,fz,by rw[k1,o2],of,o3,fun o ho hp=>o4 o ho (k2 o hp)⟩
 |map U I m=>obtain⟨r,h1,h2,es,clock,h3,h4⟩:=h;have k1:E'.w.heap[r]?=E.w.heap[r]?:=hk _ h1;exact⟨r,by rw[he,h1],h2,es,clock,by rw[k1,h3],h4.ext hx⟩
 |bld t u l=>obtain⟨b,g,h1,h2,h3⟩:=h;exact⟨b,g,by rw[he,h1],fun b' hb o=>⟨(h2 b' hb o).1,fun hp=>(h2 b' hb o).2 ((hk _ h1 b' hb).2 o hp)⟩,h3.congr fun b' hb=>(hk _ h1 b' hb).1⟩
 |tailp I n x=>obtain⟨b,cap,h1,h2,h3,h4,⟨vs,ty,fz,o2,of,o3⟩,h6,h7⟩:=h;obtain⟨k1,k2⟩:=hk _ h1 b rfl;refine⟨b,cap,by rw[he,h1],h2,h3,h4,⟨vs,ty,fz,by rw[k1,o2],of,o3⟩,fun o ho hp=>h6 o ho (k2 o hp),fun j c hc=>?_⟩;obtain⟨v,g1,g2⟩:=h7 j c hc;exact⟨v,by rw[ab k1,g1],g2.ext hx⟩
theorem Holds.drew{F:Fr}{s:AS}{a:Act}{E:Om}(h:Holds F s a E):Holds F s a ⟨E.e,E.w.drew,E.pub⟩:=by
 have hx:Ext E ⟨E.e,E.w.drew,E.pub⟩:=⟨fun _ c hc=>⟨c,hc,CLe.refl c⟩,fun _ _ p=>p,fun _ _ _=>rfl⟩
 exact⟨fun i=>(h.tmps i).ext hx,h.size,h.defers,fun id o ho=>(h.slots id o ho).keep hx rfl (fun _ _=>iu.of_blocks fun _ _ _=>⟨rfl,fun _ p=>p⟩),h.dom,h.inj,h.pubok,h.keep,
  ⟨h.frame.os,h.frame.tape,h.frame.output,h.frame.size,h.frame.block,h.frame.cell,h.frame.kind,h.frame.pub,h.frame.old,h.frame.pcell⟩⟩
def ar(P:Program):TI->TypeDesc->Bool
 |.int k,.int k'=>decide (k=k')
 |.bool,.bool=>true
 |.str,.string=>true
 |.slice e,.slice e'=>Nat.beq e e'
 |.ptr e,.pointer e'=>Nat.beq e e'
 |.map k e,.map k' e'=>Nat.beq k k'&&Nat.beq e e'
 |.strct _ fs,.struct fields=>
  (decide ((fields.toList.map fun f=>(f.offset,f.type))=fs)) && fields.toList.all fun f=>(match P.info? f.type with | some i=>!Nat.beq i.size 0 | none=>false) && !(f.name == "_")
 |.iface,.interface _=>true
 |.arr e n,.array n' e'=>Nat.beq e e'&&Nat.beq n n'
 |.other,d=>match d with|.struct _|.array ..|.interface _=>false|_=>true
 |_,_=>false
def oZ:Value->Bool
 |.agg _=>true
 |_=>false
structure TRok(P:Program)(t:Nat)(r:TR):Prop where
 info:∃i z,P.info? t=some i/\i.size=r.size/\i.bytes=r.bytes/\i.zero=some z/\z.cells.toList.map aW=r.zero
 zlen:r.zero.length=r.size
 bpos:0<r.size->0<r.bytes
 desc:∃d,P.underlying t=some d/\ar P r.ti d=true
 ty:∀I,r.ty=some I->a8 I=r.size/\tP I=r.isAgg
 zagg:∀i z,P.info? t=some i->i.zero=some z->oZ z=r.isAgg
 eqs:∀fs,r.ti=.strct true fs->P.stoodInHeld t=false/\P.eqGuardType P.depth t=false
theorem TRok.pos{P:Program}{t:Nat}{r:TR}(h:TRok P t r){I:Ty}(hτ:r.ty=some I):0<r.size:=by rw[<-(h.ty I hτ).1];exact eK I
theorem TRok.bps{P:Program}{t:Nat}{r:TR}(h:TRok P t r){I:Ty}(hτ:r.ty=some I):0<r.bytes:=h.bpos (h.pos hτ)
def aG(P:Program)(tbl:List (Nat×TR)):Prop:=∀t r,ak tbl t=some r->TRok P t r
theorem qT(k:IntKind)(n:Int)(h:okC k n=true):k.min<=n/\n<=k.max:=by
 cases n with
 |ofNat m=>simp only[okC,yF]at h;cases k<;>simp only[tQ,IntKind.min,IntKind.max,IntKind.signed,IntKind.bits]at h⊢<;>constructor<;>simp<;>omega
 |negSucc m=>cases k<;>simp only[okC,qh,yF,wR,wA,wX,tQ,IntKind.min,IntKind.max,IntKind.signed,IntKind.bits]at h⊢<;>(try exact h.elim)<;>constructor<;>simp<;>omega
theorem bR{Y:Type}:∀(l:List Y)(n:Nat),gM l n=true->l.length<=n
 |[],_,_=>by simp
 |_::r,0,h=>by simp[gM]at h
 |_::r,n+1,h=>by simp only[gM]at h;have:=bR r n h;simp;omega
theorem aV{Y:Type}:∀(l:List Y)(n:Nat),cA l n=true->l.length=n
 |[],0,_=>rfl
 |[],n+1,h=>by simp[cA]at h
 |_::r,0,h=>by simp[cA]at h
 |_::r,n+1,h=>by simp only[cA]at h;simp[aV r n h]
theorem fT{Y:Type}:∀(l:List Y)(n:Nat),nth l n=l[n]?
 |[],n=>by simp[nth]
 |a::r,0=>rfl
 |a::r,n+1=>by simp[nth,fT r n]
theorem kj(E:Om)(v:Value):V E (aW v) v:=by
 unfold aW;split
 ·split
  ·rename_i k n h;obtain⟨h1,h2⟩:=qT k n h;exact .int k n h1 h2
  ·exact .undef _
 ·exact .bool _
 ·split
  ·rename_i s h;have hl:=bR _ _ h;have:=V.str (E:=E) s.data.toList (by unfold aS;omega);simpa using this
  ·exact .undef _
 ·exact .nils
 ·exact .nilp
 ·exact .nilif
 ·exact .nilm
 ·exact .undef _
theorem tW(E:Om)(v:Value):V E (iq v) v:=by
 unfold iq;split
 ·rename_i cs;refine V.of_agg (vs:=cs.toList) ⟨by simp,fun j c u hc hu=>?_⟩;rw[wx,hu]at hc;simp only[wV,Xs]at hc;subst hc;exact kj E u
 ·exact kj E v
theorem kl(E:Om)(vs:List Value):VL E (vs.map aW) vs:=by refine⟨by simp,fun j c v hc hv=>?_⟩;rw[wx,hv]at hc;simp only[wV,Xs]at hc;subst hc;exact kj E v
theorem aK{F:Fr}{s:AS}{a:Act}{E:Om}(h:Holds F s a E)(x:Operand):V E (opd s.T x) (a.eval x):=by
 cases x with|tmp t=>exact h.tmps t|const v=>exact tW E v|global g=>exact .undef _|func f=>exact .fn f [] [] rfl (fun j c v hc=>by simp at hc)
end Go.AL
end
noncomputable section
namespace Go.AL
variable [Tabs]
def b7:(Nat->Option SObj)->List (Nat×SObj)->(Nat->Option SObj)
 |B,[]=>B
 |B,(i,o)::r=>b7 (fun j=>if i=j then some o else B j) r
def AS.put(s:AS)(d:Option Nat)(e:Eff):AS:=⟨aZ s.T d e.val,b7 s.B e.upd⟩
theorem ai{P:Program}{o:Oper}{a:Act}{w w':World}{next:Act->World->Prop}{Q:Exit->Act->World->Prop}{v:Value}
 (h:(execOp a.eval o).run P w=.ok (.value v) w')(hn:next (a.put o.dst v) w'):o.wp P a w next Q:=by
 unfold Oper.wp;rw[h];exact hn
theorem fU{P:Program}{o:Oper}{a:Act}{w w':World}{next:Act->World->Prop}{Q:Exit->Act->World->Prop}
 (h:(execOp a.eval o).run P w=.ok .skip w')(hn:next (a.put o.dst undef) w'):o.wp P a w next Q:=by
 unfold Oper.wp;rw[h];exact hn
theorem aj{P:Program}{w:World}{t:Nat}{d:TypeDesc}(h:P.underlying t=some d):(underlying t).run P w=.ok d w:=by simp[underlying,program,Sem.run,h]
theorem km{P:Program}{w:World}{t:Nat}{i:TypeInfo}(h:P.info? t=some i):(typeInfo t).run P w=.ok i w:=by simp[typeInfo,program,Sem.run,h]
theorem bF{P:Program}{w:World}{t:Nat}{i:TypeInfo}(h:P.info? t=some i):(sizeOf t).run P w=.ok i.size w:=by simp[sizeOf,km h]
theorem cG{P:Program}{w:World}{t:Nat}{i:TypeInfo}{z:Value}(h:P.info? t=some i)(hz:i.zero=some z) :
  (zeroValue t).run P w=.ok z w:=by
 simp[zeroValue,km h,hz]
structure TF(P:Program)(t:Nat)(r:TR) where
 size:∀w,(sizeOf t).run P w=.ok r.size w
 agg:∀w,(isAgg t).run P w=.ok r.isAgg w
theorem TRok.tf{P:Program}{t:Nat}{r:TR}(h:TRok P t r):TF P t r:=by obtain⟨i,z,h1,h2,h3,h4,h5⟩:=h.info;obtain⟨d,h6,h7⟩:=h.desc;refine⟨fun w=>by rw[bF h1,h2],fun w=>?_⟩;simp only[isAgg,w7,aj h6,vY];cases hti:r.ti<;>rw[hti]at h7<;>cases d<;>simp[ar]at h7<;>simp[TR.isAgg,hti]
theorem jh:∀(cs:List AV)(n:Nat)(ds:List AV),gN cs n=some ds->n<=cs.length/\ds=cs.drop n
 |cs,0,ds,h=>by simp[gN]at h;simp[h]
 |[],n+1,ds,h=>by simp[gN]at h
 |c::r,n+1,ds,h=>by simp only[gN]at h;obtain⟨h1,h2⟩:=jh r n ds h;exact⟨by simp;omega,by simp[h2]⟩
theorem ji:∀(cs:List AV)(n:Nat)(ds:List AV),jf cs n=some ds->n<=cs.length/\ds=cs.take n
 |cs,0,ds,h=>by simp[jf]at h;simp[<-h]
 |[],n+1,ds,h=>by simp[jf]at h
 |c::r,n+1,ds,h=>by
  simp only[jf]at h;split at h
  ·rename_i l hl;obtain⟨h1,h2⟩:=ji r n l hl;simp at h;exact⟨by simp;omega,by simp[<-h,h2]⟩
  ·simp at h
theorem dL{cs ds:List AV}{off n:Nat}(h:sub cs off n=some ds):off+n<=cs.length/\ds=(cs.drop off).take n:=by
 unfold sub at h;split at h
 ·rename_i l hl;obtain⟨h1,h2⟩:=jh _ _ _ hl;obtain⟨h3,h4⟩:=ji _ _ _ h;subst h2;simp at h3;exact⟨by omega,h4⟩
 ·simp at h
theorem VL.sub{E:Om}{cs ds:List AV}{vs:List Value}{off n:Nat}(h:VL E cs vs)(hs:sub cs off n=some ds) :
  VL E ds ((vs.drop off).take n):=by
 obtain⟨h1,h2⟩:=dL hs;subst h2;refine⟨by simp[h.1],fun j c v hc hv=>?_⟩;rw[wv]at hc hv;split at hc
 ·rename_i hj;rw[wh hj,wO]at hv;rw[wO]at hc;exact h.2 _ c v hc hv
 ·simp at hc
theorem nE{P:Program}{w:World}{t:Nat}{r:TR}(ht:TF P t r){cs:List AV}{x:AV}(ho:bE r cs=some x){E:Om}
 {b off:Nat}{vs:List Value}(hv:VL E cs vs)(hlen:cs.length=r.size)(hc:∀j v,vs[j]?=some v->w.cell? ⟨b,off+j,none⟩=some v) :
  ∃v,(loadVar t ⟨b,off,none⟩).run P w=.ok v w/\V E x v:=by
 unfold bE at ho;simp only[loadVar,w7,ht.agg,vY];split at ho
 ·rename_i hagg;simp at ho;subst ho;refine⟨.agg vs.toArray,?_,V.of_agg hv⟩;rw[hagg];simp only[wR,w7,ht.size,vY]
  have:=run_loadCells_list (P:=P) w ⟨b,off,none⟩ vs (fun j v hj=>by
   have:=hc j v hj;unfold Addr.add;split
   ·rename_i h0;subst h0;simpa using this
   ·simpa using this)
  rw[<-hlen,hv.1,this];simp
 ·rename_i hagg;have hagg':r.isAgg=false:=by simpa using hagg
  rw[hagg']
  cases cs with
  |nil=>simp at ho
  |cons c cs=>
   cases cs with
   |cons _ _=>simp at ho
   |nil=>
    simp at ho;subst ho
    cases vs with
    |nil=>exact absurd hv.1 (by simp)
    |cons v vs=>
     cases vs with|cons _ _=>exact absurd hv.1 (by simp)|nil=>refine⟨v,?_,hv.head⟩;have:=hc 0 v rfl;simp only[xy]at this;simp[this]
theorem qq{E:Om}{w:World}{b:Nat}:∀(cs:List AV)(off:Nat),(∀(j:Nat)(c:AV),cs[j]?=some c->∃v,w.cell? ⟨b,off+j,none⟩=some v/\V E c v)->
  ∃vs,VL E cs vs/\∀j v,vs[j]?=some v->w.cell? ⟨b,off+j,none⟩=some v
 |[],_,_=>⟨[],.nil,fun j v h=>by simp at h⟩
 |c::cs,off,h=>by
  obtain⟨v,h1,h2⟩:=h 0 c rfl
  obtain⟨vs,h3,h4⟩:=qq (w:=w) (b:=b) cs (off+1) (fun j d hd=>by
   have:=h (j+1) d (by simpa using hd)
   rwa [show off+(j+1)=off+1+j by omega]at this)
  refine⟨v::vs,.cons h2 h3,fun j u hu=>?_⟩
  cases j with
  |zero=>simp at hu;subst hu;exact h1
  |succ j=>
   have:=h4 j u (by simpa using hu)
   rwa [show off+1+j=off+(j+1) by omega]at this
theorem qU(l:List AV):jf l l.length=some l:=by
 induction l with
 |nil=>rfl
 |cons a l ih=>simp[jf,ih]
theorem nF{l ds:List AV}{off:Nat}(h:gN l off=some ds):sub l off ds.length=some ds:=by simp[sub,h,qU]
theorem tX(cs:List AV)(n:Nat)(hn:n=cs.length):sub cs 0 n=some cs:=by subst hn;exact nF (by cases cs<;>rfl)
theorem fV{n m:SN}{off:Nat}{y:SD n}{z:SD m}(h:fO n off y=some (.st m z)):sub (cells (.st n) y) off (a8 (.st m))=some (cells (.st m) z):=by
 cases n with
 |shape=>cases h
 |item=>
  match off,h with
  |2,h=>simp only[fO,Xs]at h;cases h;rfl
 |change=>cases h
 |token=>cases h
 |fault=>cases h
 |term=>cases h
 |version=>cases h
 |bound=>
  match off,h with
  |1,h=>simp only[fO,Xs]at h;cases h;rfl
 |imp=>
  match off,h with
  |1,h=>simp only[fO,Xs]at h;cases h;rfl
 |decl=>
  match off,h with
  |2,h=>simp only[fO,Xs]at h;cases h;rfl
  |7,h=>simp only[fO,Xs]at h;cases h;rfl
 |modu=>cases h
 |bind=>
  match off,h with
  |2,h=>simp only[fO,Xs]at h;cases h;rfl
 |env=>cases h
 |dep=>cases h
 |val=>cases h
 |cell=>
  match off,h with
  |1,h=>simp only[fO,Xs]at h;cases h;rfl
 |op=>cases h
 |chunk=>cases h
 |usg=>cases h
 |nm=>cases h
 |stt=>cases h
 |par=>cases h
 |rstt=>cases h
theorem jj{P:Program}{t:Nat}{r:TR}(hr:TRok P t r){c:AV}{off:Nat}{x:AV}(h:gO r c off=some x) :
  ∃ds z,sub (a7 c) off r.size=some ds/\bE r ds=some z/\∀E v,V E z v->V E x v:=by
 have bY:∀{off:Nat},(match sub (a7 c) off r.size with|some cs=>bE r cs|none=>none)=some x->
   ∃ds z,sub (a7 c) off r.size=some ds/\bE r ds=some z/\∀E v,V E z v->V E x v:=by
  intro off h;split at h
  ·rename_i cs hcs;exact⟨cs,x,hcs,h,fun _ _ h=>h⟩
  ·simp at h
 unfold gO at h;split at h
 ·rename_i n y m hty;obtain⟨hw,ha⟩:=hr.ty _ hty;split at h
  ·rename_i hnm;subst hnm;simp only[Xs]at h;subst h;refine⟨cells (.st n) y,.agg (cells (.st n) y),tX _ _ (by show r.size=(cells (.st n) y).length;rw[aA,hw]),?_,fun E v hv=>.st n y v hv⟩;have ha':r.isAgg=true:=by rw[<-ha];rfl
   simp[bE,ha']
  ·exact bY h
 ·rename_i n y o m hty;obtain⟨hw,ha⟩:=hr.ty _ hty;have ha':r.isAgg=true:=by rw[<-ha];rfl
  split at h
  ·rename_i m' z hz;split at h
   ·rename_i hm;subst hm;simp only[Xs]at h;subst h;have hs:=fV hz;rw[hw]at hs;exact⟨cells (.st _) z,.agg (cells (.st _) z),hs,by simp[bE,ha'],fun E v hv=>.st _ z v hv⟩
   ·simp at h
  ·exact bY h
 ·exact bY h
section
variable {P:Program} {C:Cfg} {F:Fr} {s:AS} {a:Act} {E:Om} {o:Oper} {eff:Eff} {next:Act->World->Prop} {Q:Exit->Act->World->Prop}
def b4(P:Program)(C:Cfg)(o:Oper):Prop:=
 ∀(F:Fr)(s:AS)(a:Act)(E:Om)(eff:Eff)(next:Act->World->Prop)(Q:Exit->Act->World->Prop),
  Holds F s a E->(∀d,o.dst=some d->d<F.n)->ah C o s.T s.B=some eff->eff.asks->
  (∀a' E',Holds F (s.put o.dst eff) a' E'->next a' E'.w)->o.wp P a E.w next Q
theorem b4.pure(hv:∀(F:Fr)(s:AS)(a:Act)(E:Om)(eff:Eff),Holds F s a E->ah C o s.T s.B=some eff->eff.asks->
  eff.upd=[]/\∃v,(execOp a.eval o).run P E.w=.ok (.value v) E.w/\V E eff.val v):b4 P C o:=by
 intro F s a E eff next Q h hd he ho hn
 obtain⟨h1,v,h2,h3⟩:=hv F s a E eff h he ho;refine ai h2 (hn _ _ ?_);have:=h.pure h3 hd;simpa[AS.put,h1,b7]using this
theorem tY{x:Operand}(hop:o.op=.move x):b4 P C o:=by refine b4.pure fun F s a E eff h he ho=>?_;simp only[ah,hop,Xs]at he;subst he;exact⟨rfl,_,by simp[execOp,hop],aK h x⟩
theorem qV{x:Operand}(hop:o.op=.assign x):b4 P C o:=by refine b4.pure fun F s a E eff h he ho=>?_;simp only[ah,hop,Xs]at he;subst he;exact⟨rfl,_,by simp[execOp,hop],aK h x⟩
theorem V.bool_inv{E:Om}{b:Bool}{v:Value}(h:V E (.bool b) v):v=.bool b:=by cases h;rfl
theorem V.int_inv{E:Om}{k:IntKind}{n:Int}{v:Value}(h:V E (.int k n) v):v=.int k n/\k.min<=n/\n<=k.max:=by cases h;exact⟨rfl,by assumption,by assumption⟩
theorem V.str_inv{E:Om}{s:Str}{v:Value}(h:V E (.str s) v):v=.string ⟨s.toArray⟩/\s.length<=aS:=by cases h;exact⟨rfl,by assumption⟩
theorem V.nils_inv{E:Om}{v:Value}(h:V E .nils v):v=.slice none 0 0:=by cases h;rfl
theorem V.ptr_inv{E:Om}{i off:Nat}{v:Value}(h:V E (.ptr i off) v):∃b o len,v=.pointer (some ⟨b,o+off,none⟩)/\E.e i=some (.box b o len):=by cases h;exact⟨_,_,_,rfl,by assumption⟩
theorem tZ{c x y:Operand}(hop:o.op=.pick c x y):b4 P C o:=by
 refine b4.pure fun F s a E eff h he ho=>?_;simp only[ah,hop]at he;split at he
 ·rename_i b hb;simp only[Xs]at he;subst he;have hc:=aK h c;rw[hb]at hc;have hc:=hc.bool_inv;cases b
  ·exact⟨rfl,_,by simp[execOp,hop,hc,asBool],aK h y⟩
  ·exact⟨rfl,_,by simp[execOp,hop,hc,asBool],aK h x⟩
 ·simp at he
theorem eh(hT:aG P C.tbl){t:Nat}{r:TR}(hr:ak C.tbl t=some r){E:Om}{w:World}{c x:AV}{b o' off:Nat}(hl:gO r c off=some x)
 (hc:∀(j:Nat)(c':AV),(a7 c)[j]?=some c'->∃v,w.cell? ⟨b,o'+j,none⟩=some v/\V E c' v) :
  ∃v,(loadVar t ⟨b,o'+off,none⟩).run P w=.ok v w/\V E x v:=by
 obtain⟨ds,z,h1,h2,h3⟩:=jj (hT t r hr) hl;obtain⟨vs,h4,h5⟩:=qq _ _ hc;obtain⟨s1,s2⟩:=dL h1
 obtain⟨v,h6,h7⟩:=nE (w:=w) (hT t r hr).tf h2 (h4.sub h1) (b:=b) (off:=o'+off) (by rw[s2];simp;omega) (fun j u hj=>by
  rw[wv]at hj;split at hj
  ·rw[wO]at hj;have:=h5 _ _ hj
   rwa [<-xn]at this
  ·simp at hj)
 exact⟨v,h6,h3 _ _ h7⟩
theorem gz(I:Ty)(x:den I):a7 (inj I x)=cells I x:=by cases I<;>rfl
theorem V.aptr_inv{E:Om}{i n w off:Nat}{v:Value}(h:V E (.aptr i n w off) v):∃b o len,v=.pointer (some ⟨b,o+(n *w+off),none⟩)/\E.e i=some (.box b o len):=by cases h;exact⟨_,_,_,rfl,by assumption⟩
theorem aL.row{E:Om}{own:Nat->Nat->Prop}{id b o len:Nat}{I:Ty}{xs:List (den I)}(h:aL E own id (.box (.row I xs)))(he:E.e id=some (.box b o len))
 {i:Nat}(hi:i<xs.length)(j:Nat)(c:AV)(hc:(a7 (inj I (xs.getD i (dfl I))))[j]?=some c) :
  (aH I xs)[i *a8 I+j]?=some c/\own b (o+(i *a8 I+j))/\¬E.pub b (o+(i *a8 I+j))/\E.w.frozen? ⟨b,o+(i *a8 I+j),none⟩=false/\
   ∃v,E.w.cell? ⟨b,o+(i *a8 I+j),none⟩=some v/\V E c v:=by
 obtain⟨b',o',e1,e2⟩:=h;rw[he]at e1;simp only[Xs,CObj.box.injEq]at e1;obtain⟨rfl,rfl,rfl⟩:=e1;have hx:xs[i]?=some (xs.getD i (dfl I)):=by simp[vZ,hi]
 rw[gz]at hc;have hf:=dT I xs i _ j c hx hc;exact⟨hf,e2 _ c hf⟩
theorem u5(hT:aG P C.tbl){t:Nat}{x:Operand}(hop:o.op=.load t x):b4 P C o:=by
 refine b4.pure fun F s a E eff h he ho=>?_;simp only[ah,hop]at he;split at he
 ·rename_i r hr;have hx:=aK h x;split at he
  ·rename_i id off hopd;rw[hopd]at hx;obtain⟨b,o',len,hxv,hxb⟩:=hx.ptr_inv;split at he
   ·rename_i c hcs;simp only[we]at he;obtain⟨av,ho1,rfl⟩:=he;obtain⟨b',off',e1,e2⟩:=h.slots id _ hcs;rw[hxb]at e1;simp only[Xs,CObj.box.injEq]at e1;obtain⟨rfl,rfl,rfl⟩:=e1;obtain⟨v,hv1,hv2⟩:=eh (w:=E.w) hT hr ho1 (b:=b) (o':=o') (fun j c' hc=>(e2 j c' hc).2.2.2);exact⟨rfl,v,by simp[execOp,hop,hxv,Instr.loadAt,Instr.sureAddr,hv1],hv2⟩
   ·simp at he
  ·rename_i c hopd;rw[hopd]at hx;simp only[we]at he;obtain⟨av,ho1,rfl⟩:=he;generalize hxe:a.eval x=xv at hx
   cases hx with
   |cptr _ b off vals h1 h2=>obtain⟨v,hv1,hv2⟩:=eh (w:=E.w) hT hr ho1 (b:=b) (o':=off) (fun j c' hc=>⟨_,(h1 j c' hc).2,h2 j c' hc⟩);simp only[xy]at hv1;exact⟨rfl,v,by simp[execOp,hop,hxe,Instr.loadAt,Instr.sureAddr,hv1],hv2⟩
  ·rename_i id i w off hopd;rw[hopd]at hx;obtain⟨b,o',len,hxv,hxb⟩:=hx.aptr_inv;split at he
   ·rename_i I xs hcs;unfold ql at he;split at he
    ·rename_i hw;subst hw;split at he
     ·rename_i av hav;simp only[Xs]at he;subst he;have hi:i<xs.length:=ho
      obtain⟨v,hv1,hv2⟩:=eh (w:=E.w) hT hr hav (b:=b) (o':=o'+i *a8 I) (fun j c' hc=>by
       obtain⟨_,_,_,_,v,h1,h2⟩:=(h.slots id _ hcs).row hxb hi j c' hc;exact⟨v,by rw[xn];exact h1,h2⟩)
      rw[xn]at hv1;exact⟨rfl,v,by simp[execOp,hop,hxv,Instr.loadAt,Instr.sureAddr,hv1],hv2⟩
     ·simp at he
    ·simp at he
   ·simp at he
  ·simp at he
 ·simp at he
theorem nG{x:Operand}(hop:o.op=.nilCheck x):b4 P C o:=by
 refine b4.pure fun F s a E eff h he ho=>?_;simp only[ah,hop]at he;have hx:=aK h x;split at he
 ·rename_i id off hopd;simp only[Xs]at he;subst he;rw[hopd]at hx;obtain⟨b,o',len,hxv,hxb⟩:=hx.ptr_inv;exact⟨rfl,.pointer (some ⟨b,o'+off,none⟩),by simp[execOp,hop,hxv],.ptr id off b o' len hxb⟩
 ·rename_i cs hopd;simp only[Xs]at he;subst he;rw[hopd]at hx;generalize hxe:a.eval x=xv at hx;have hx':=hx
  cases hx with|cptr _ b off vals h1 h2=>exact⟨rfl,_,by simp[execOp,hop,hxe],hx'⟩
 ·rename_i id i w off hopd;simp only[Xs]at he;subst he;rw[hopd]at hx;obtain⟨b,o',len,hxv,hxb⟩:=hx.aptr_inv;rw[hxv]at hx;exact⟨rfl,_,by simp[execOp,hop,hxv],hx⟩
 ·rename_i f cs hopd;simp only[Xs]at he;subst he;rw[hopd]at hx;generalize hxe:a.eval x=xv at hx;have hx':=hx
  cases hx with|fn f cs vs h1 h2=>exact⟨rfl,_,by simp[execOp,hop,hxe],hx'⟩
 ·rename_i n y hopd;simp only[Xs]at he;subst he;rw[hopd]at hx;have hs:y.isSome=true:=ho
  cases y with
  |none=>cases hs
  |some y=>
   generalize hxe:a.eval x=xv at hx
   cases hx with
   |ptSome n y v hv=>
    have hv':=hv
    cases hv with|cptr _ b off vals h1 h2=>exact⟨rfl,_,by simp[execOp,hop,hxe],hv'⟩
 ·simp at he
end
end Go.AL
end
noncomputable section
namespace Go.AL
variable [Tabs]
section
variable {P:Program} {C:Cfg} {o:Oper}
theorem ej(k:IntKind)(n:Int)(h1:k.min<=n)(h2:n<=k.max):k.wrap n=n:=by cases k<;>simp only[IntKind.min,IntKind.max,IntKind.signed,IntKind.bits,IntKind.wrap]at *<;> simp at *<;> omega
theorem qW{op:BinOp}{t:Nat}{x y:Operand}{k k':IntKind}{a b:Int}:eqGuard op t x y (.int k a) (.int k' b)=pure ():=by unfold eqGuard;cases op<;>rfl
theorem qX{op:BinOp}{t:Nat}{x y:Operand}{a b:ByteArray}:eqGuard op t x y (.string a) (.string b)=pure ():=by unfold eqGuard;cases op<;>rfl
theorem p7{op:BinOp}{t:Nat}{x y:Operand}{a b:Bool}:eqGuard op t x y (.bool a) (.bool b)=pure ():=by unfold eqGuard;cases op<;>rfl
theorem u6{E:Om}{op:BinOp}{t:Nat}{k:IntKind}{m n:Int}{eff:Eff}(he:oQ op k m n=some eff)(ho:eff.asks){w:World}
 (hm:k.min<=m/\m<=k.max)(hn:k.min<=n/\n<=k.max) :
  eff.upd=[]/\∃v,(binOp op t (.int k m) (.int k n)).run P w=.ok v w/\V E eff.val v:=by
 have hmax:k.min<=0/\0<=k.max:=by cases k<;>simp[IntKind.min,IntKind.max,IntKind.signed,IntKind.bits]
 cases op<;>simp only[oQ,Xs,reduceCtorEq]at he<;>subst he<;>refine⟨rfl,?_⟩
 case add=>
  obtain⟨h1,h2⟩:=ho;exact⟨_,by simp[binOp,Op.intArith,ej k _ h1 h2],.int k _ h1 h2⟩
 case sub=>
  obtain⟨h1,h2⟩:=ho;exact⟨_,by simp[binOp,Op.intArith,ej k _ h1 h2],.int k _ h1 h2⟩
 case mul=>
  obtain⟨h1,h2⟩:=ho;exact⟨_,by simp[binOp,Op.intArith,ej k _ h1 h2],.int k _ h1 h2⟩
 case quo=>
  obtain⟨h0,h1,h2⟩:=ho;exact⟨_,by simp[binOp,Op.intDiv,ej k _ h1 h2,h0],.int k _ h1 h2⟩
 case rem=>
  obtain⟨h0,h1,h2⟩:=ho;exact⟨_,by simp[binOp,Op.intDiv,h0],.int k _ h1 h2⟩
 case eql=>exact⟨.bool (decide (m=n)),by simp[binOp,Op.intCmp];by_cases h:m=n<;>simp[h],.bool _⟩
 case neq=>exact⟨.bool (!decide (m=n)),by simp[binOp,Op.intCmp];by_cases h:m=n<;>simp[h],.bool _⟩
 case lss=>exact⟨_,by simp[binOp,Op.intCmp],.bool _⟩
 case leq=>exact⟨_,by simp[binOp,Op.intCmp],.bool _⟩
 case gtr=>exact⟨_,by simp[binOp,Op.intCmp],.bool _⟩
 case geq=>exact⟨_,by simp[binOp,Op.intCmp],.bool _⟩
theorem cu(l:List UInt8):(⟨l.toArray⟩:ByteArray).toList=l:=by
 have h:∀(b:ByteArray)(i:Nat)(r:List UInt8),ByteArray.toList.loop b i r=r.reverse++b.data.toList.drop i:=by
  intro b i r
  induction hk:b.size-i generalizing i r with
  |zero=>unfold ByteArray.toList.loop;rw[w5 (by omega)];have:b.data.toList.drop i=[]:=List.drop_eq_nil_of_le (by simp;exact Nat.le_of_sub_eq_zero hk);simp[this]
  |succ k ih=>
   unfold ByteArray.toList.loop;have hlt:i<b.size:=by omega
   rw[wh hlt,ih (i+1) _ (by omega)];have hlt':i<b.data.toList.length:=by simpa using hlt
   rw[y5 hlt'];simp[ByteArray.get!,hlt]
 unfold ByteArray.toList;rw[h];simp
theorem iv(m n:Str):(m ==n)=decide (m=n):=by rw[Bool.eq_iff_iff];simp
theorem u7{E:Om}{op:BinOp}{t:Nat}{m n:Str}{eff:Eff}(he:oR op m n=some eff)(ho:eff.asks){w:World} :
  eff.upd=[]/\∃v,(binOp op t (.string ⟨m.toArray⟩) (.string ⟨n.toArray⟩)).run P w=.ok v w/\V E eff.val v:=by
 cases op<;>simp only[oR,Xs,reduceCtorEq]at he<;>subst he<;>refine⟨rfl,?_⟩
 case add=>
  have h1:m.length+n.length<=9223372036854775807:=ho;have e:(⟨m.toArray⟩:ByteArray)++⟨n.toArray⟩=⟨(m++n).toArray⟩:=by apply ByteArray.ext;simp
  refine⟨.string ⟨(m++n).toArray⟩,?_,.str (m++n) (by unfold aS;simp;omega)⟩;have e2:¬(((ByteArray.size ⟨m.toArray⟩+ByteArray.size ⟨n.toArray⟩:Nat):Int) > IntKind.i64.max):=by simp[ByteArray.size,IntKind.max,IntKind.signed,IntKind.bits];omega
  simp only[binOp,Op.stringOp];rw[w5 e2,e];rfl
 case eql=>exact⟨.bool (decide (m=n)),by simp[binOp,Op.stringOp,cu,iv],.bool _⟩
 case neq=>exact⟨.bool (!decide (m=n)),by simp[binOp,Op.stringOp,cu,iv],.bool _⟩
 case lss=>exact⟨.bool (Op.bytesLess m n),by simp[binOp,Op.stringOp,cu],.bool _⟩
 case leq=>exact⟨.bool (Op.bytesLess m n||decide (m=n)),by simp[binOp,Op.stringOp,cu,iv],.bool _⟩
 case gtr=>exact⟨.bool (!(Op.bytesLess m n||decide (m=n))),by simp[binOp,Op.stringOp,cu,iv],.bool _⟩
 case geq=>exact⟨.bool (!Op.bytesLess m n),by simp[binOp,Op.stringOp,cu],.bool _⟩
theorem iQ(d:Nat){t:Nat}{m n:Bool}(hu:P.underlying t=some .bool){w:World} :
  (Op.equalIn (d+1) t (.bool m) (.bool n)).run P w=.ok (m ==n) w:=by
 unfold Op.equalIn;simp only[w7,aj hu,vY];rfl
theorem fW{t:Nat}{m n:Bool}(hu:P.underlying t=some .bool){w:World} :
  (Op.equal t (.bool m) (.bool n)).run P w=.ok (m ==n) w:=iQ 9999 hu
theorem sl{E:Om}{op:BinOp}{t:Nat}{m n:Bool}{eff:Eff}(hu:P.underlying t=some .bool)(he:mu op m n=some eff){w:World} :
  eff.upd=[]/\∃v,(binOp op t (.bool m) (.bool n)).run P w=.ok v w/\V E eff.val v:=by
 cases op<;>simp only[mu,Xs,reduceCtorEq]at he<;>subst he<;>refine⟨rfl,?_⟩
 case eql=>exact⟨.bool (m ==n),by simp[binOp,fW hu],.bool _⟩
 case neq=>exact⟨.bool (!(m ==n)),by simp[binOp,fW hu],.bool _⟩
theorem an(hT:aG P C.tbl){t:Nat}{r:TR}(hr:ak C.tbl t=some r){ti:TI}(hti:r.ti=ti) :
  ∃d,P.underlying t=some d/\ar P ti d=true:=by
 obtain⟨d,h1,h2⟩:=(hT t r hr).desc;exact⟨d,h1,by rw[<-hti];exact h2⟩
theorem mG(hT:aG P C.tbl){ft:Nat}{rt:TR}(hr:ak C.tbl ft=some rt){E:Om}{c d:AV}{u v:Value}{b:Bool}(h:my rt.ti c d=some b)
 (hu:V E c u)(hv:V E d v)(dep:Nat)(w:World):(Op.equalIn (dep+1) ft u v).run P w=.ok b w/\rt.isAgg=false:=by
 obtain⟨dd,hd1,hd2⟩:=an hT hr rfl;unfold TR.isAgg;generalize rt.ti=ti at h hd2;unfold my at h;split at h
 ·split at h
  ·rename_i j a k b' hjk;subst hjk;cases dd<;>simp[ar]at hd2;simp at h;subst h;rw[hu.int_inv.1,hv.int_inv.1];refine⟨?_,rfl⟩;rw[run_equalIn_int _ _ _ _ _ _ _ hd1];congr 1
  ·cases h
 ·cases dd<;>simp[ar]at hd2;simp at h;subst h;rw[hu.bool_inv,hv.bool_inv];exact⟨run_equalIn_bool' _ _ _ _ _ hd1,rfl⟩
 ·cases dd<;>simp[ar]at hd2;simp at h;subst h;rw[hu.str_inv.1,hv.str_inv.1];refine⟨?_,rfl⟩;rw[run_equalIn_string _ _ _ _ _ hd1,cu,cu,iv]
 ·cases h
theorem fm(hT:aG P C.tbl){E:Om}{cs ds:List AV}{xs ys:List Value}(hx:VL E cs xs)(hy:VL E ds ys)(dep:Nat)(w:World) :
  ∀(fields:List Field)(b:Bool),(∀f∈fields,f.name≠ "_")->qQ C (fields.map fun f=>(f.offset,f.type)) cs ds=some b->
   (Op.eqFields (dep+1) xs.toArray ys.toArray fields).run P w=.ok b w
 |[],b,_,h=>by simp[qQ]at h;subst h;simp[Op.eqFields]
 |f::r,b,hn,h=>by
  simp only[wu,qQ]at h;split at h
  ·rename_i rt c d hr hc hd;split at h
   ·rename_i b1 b2 h1 h2;simp only[Xs]at h;subst h;rw[fT]at hc hd
    have getv:∀{cs:List AV} {vs:List Value} {c:AV},VL E cs vs->cs[f.offset]?=some c->∃v,vs[f.offset]?=some v/\V E c v:=by
     intro cs vs c hv hc
     have hl:f.offset<cs.length:=by
      rcases w4 f.offset cs.length with k|k
      ·exact k
      ·rw[vX k]at hc;cases hc
     have hl':f.offset<vs.length:=by rw[<-hv.1];exact hl
     exact⟨vs[f.offset],vV hl',hv.2 _ c _ hc (vV hl')⟩
    obtain⟨u,hu1,hu2⟩:=getv hx hc;obtain⟨v,hv1,hv2⟩:=getv hy hd;obtain⟨k1,k2⟩:=mG hT hr h1 hu2 hv2 dep w;have hpart:∀{vs:List Value} {u:Value},vs[f.offset]?=some u->(part f.type vs.toArray f.offset).run P w=.ok u w:=by intro vs u hu;simp[part,(hT _ _ hr).tf.agg,k2,hu]
    have ih:=fm hT hx hy dep w r b2 (fun g hg=>hn g (by simp[hg])) h2;simp only[Op.eqFields,ne_eq,hn f (by simp),not_false_eq_true,wR,w7,hpart hu1,hpart hv1,vY,k1];cases b1
    ·simp
    ·simp[ih]
   ·cases h
  ·cases h
theorem fo{E:Om}{x:AV}{cs:List AV}{v:Value}(h:V E x v)(hc:eJ x=some cs):∃vs:List Value,v=.agg vs.toArray/\VL E cs vs:=by
 unfold eJ at hc;split at hc
 ·simp at hc;subst hc;exact h.agg_inv
 ·simp at hc;subst hc
  cases h with|st _ _ v hv=>exact hv.agg_inv
 ·cases hc
theorem u9(hT:aG P C.tbl){o:Oper}{op:BinOp}{t t':Nat}{x y:Operand}(hop:o.op=.binOp op t x y t'){a:Act}{E:Om}{cs ds:List AV}{xs ys:List Value}
 (hx:VL E cs xs)(hxv:a.eval x=.agg xs.toArray)(hyl:VL E ds ys)(hyv:a.eval y=.agg ys.toArray){eff:Eff}(he:oU C op t cs ds=some eff) :
  eff.upd=[]/\∃v,(execOp a.eval o).run P E.w=.ok (.value v) E.w/\V E eff.val v:=by
 unfold oU at he;split at he
 ·rename_i fs sz by' z ty hr
  split at he
  ·rename_i b hb;obtain⟨d,hd1,hd2⟩:=an hT hr rfl;obtain⟨e1,e2⟩:=(hT _ _ hr).eqs fs rfl;cases d<;>try (simp[ar]at hd2;done)
   rename_i fields;simp only[ar,vW,wb,wk]at hd2;obtain⟨hf1,hf2⟩:=hd2;have hfo:P.fieldsOf t=fields:=by simp[Program.fieldsOf,hd1]
   have hrun:(Op.equalIn 10000 t (.agg xs.toArray) (.agg ys.toArray)).run P E.w=.ok b E.w:=by rw[run_equalIn_struct E.w 9999 t _ _ (by rw[hfo];exact hd1) e1,hfo];exact fm hT hx hyl 9998 E.w fields.toList b (fun f hf=>by simpa using(hf2 f hf).2) (by rw[hf1];exact hb)
   have hg:=run_eqGuard_agg E.w op t x y xs.toArray ys.toArray e2;split at he
   ·simp only[Xs]at he;subst he;exact⟨rfl,.bool b,by simp[execOp,hop,hxv,hyv,hg,run_eql_struct,hrun],.bool _⟩
   ·simp only[Xs]at he;subst he;exact⟨rfl,.bool (!b),by simp[execOp,hop,hxv,hyv,hg,run_neq_struct,hrun],.bool _⟩
   ·simp at he
  ·simp at he
 ·simp at he
theorem so(hT:aG P C.tbl){op:BinOp}{t t':Nat}{x y:Operand}(hop:o.op=.binOp op t x y t'):b4 P C o:=by
 refine b4.pure fun F s a E eff h he ho=>?_;simp only[ah,hop]at he;have hx:=aK h x;have hy:=aK h y;split at he
 ·rename_i k m k' n hm hn;rw[hm]at hx;rw[hn]at hy;split at he
  ·rename_i hk;subst hk;obtain⟨hx1,hx2⟩:=hx.int_inv;obtain⟨hy1,hy2⟩:=hy.int_inv;obtain⟨h1,v,h2,h3⟩:=u6 (P:=P) (E:=E) (t:=t) (w:=E.w) he ho hx2 hy2;exact⟨h1,v,by simp[execOp,hop,hx1,hy1,qW,h2],h3⟩
  ·simp at he
 ·rename_i m n hm hn;rw[hm]at hx;rw[hn]at hy;obtain⟨hx1,hx2⟩:=hx.str_inv;obtain⟨hy1,hy2⟩:=hy.str_inv;obtain⟨h1,v,h2,h3⟩:=u7 (P:=P) (E:=E) (t:=t) (w:=E.w) he ho;exact⟨h1,v,by simp[execOp,hop,hx1,hy1,qX,h2],h3⟩
 ·rename_i m n hm hn;rw[hm]at hx;rw[hn]at hy;have hx1:=hx.bool_inv;have hy1:=hy.bool_inv;split at he
  ·rename_i sz by' z ty hr
   obtain⟨d,hd1,hd2⟩:=an hT hr rfl;cases d<;>simp[ar]at hd2;obtain⟨h1,v,h2,h3⟩:=sl (P:=P) (E:=E) (t:=t) (w:=E.w) hd1 he;exact⟨h1,v,by simp[execOp,hop,hx1,hy1,p7,h2],h3⟩
  ·simp at he
 ·rename_i n m hm hn;rw[hm]at hx;rw[hn]at hy;split at he
  ·rename_i e sz by' z ty hr
   obtain⟨d,hd1,hd2⟩:=an hT hr rfl;cases d<;>simp[ar]at hd2
   have key:∃p,a.eval x=.pointer p/\p.isNone=m.isNone/\p.isSome=m.isSome:=by
    generalize a.eval x=xv at hx
    cases hx with
    |ptNone _=>exact⟨none,rfl,rfl,rfl⟩
    |ptSome _ _ _ hv=>cases hv with|cptr _ b off vals _ _=>exact⟨_,rfl,rfl,rfl⟩
   obtain⟨p,hp,hp1,hp2⟩:=key;have hy1:a.eval y=.pointer none:=by generalize a.eval y=yv at hy;cases hy;rfl
   have hq:(Op.equal t (.pointer p) (.pointer none)).run P E.w=.ok p.isNone E.w:=by unfold Op.equal Op.maxDepth Op.equalIn;simp only[w7,aj hd1,vY];cases p<;>rfl
   have hg:(eqGuard op t x y (.pointer p) (.pointer none)).run P E.w=.ok () E.w:=by cases op<;>rfl
   split at he
   ·simp only[Xs]at he;subst he;exact⟨rfl,.bool m.isNone,by rw[<-hp1];simp[execOp,hop,hp,hy1,hg,binOp,hq],.bool _⟩
   ·simp only[Xs]at he;subst he;exact⟨rfl,.bool m.isSome,by rw[<-hp2];simp[execOp,hop,hp,hy1,hg,binOp,hq],.bool _⟩
   ·simp at he
  ·simp at he
 ·rename_i ti ia hm hn;rw[hm]at hx;rw[hn]at hy;split at he
  ·rename_i sz by' z ty hr
   obtain⟨d,hd1,hd2⟩:=an hT hr rfl;cases d<;>simp[ar]at hd2;have key:∃v,a.eval x=.iface ti v:=by generalize a.eval x=xv at hx;cases hx;exact⟨_,rfl⟩
   obtain⟨xv,hp⟩:=key;have hy1:a.eval y=.nilIface:=by generalize a.eval y=yv at hy;cases hy;rfl
   have hq:(Op.equal t (.iface ti xv) .nilIface).run P E.w=.ok false E.w:=by unfold Op.equal Op.maxDepth Op.equalIn;simp only[w7,aj hd1,vY];rfl
   have hg:(eqGuard op t x y (.iface ti xv) .nilIface).run P E.w=.ok () E.w:=by cases op<;>rfl
   split at he
   ·simp only[Xs]at he;subst he;exact⟨rfl,.bool false,by simp[execOp,hop,hp,hy1,hg,binOp,hq],.bool _⟩
   ·simp only[Xs]at he;subst he;exact⟨rfl,.bool true,by simp[execOp,hop,hp,hy1,hg,binOp,hq],.bool _⟩
   ·simp at he
  ·simp at he
 ·rename_i hm hn;rw[hm]at hx;rw[hn]at hy;split at he
  ·rename_i sz by' z ty yc hr
   obtain⟨d,hd1,hd2⟩:=an hT hr rfl;cases d<;>simp[ar]at hd2;have hp:a.eval x=.nilIface:=by generalize a.eval x=xv at hx;cases hx;rfl
   have hy1:a.eval (.const yc)=.nilIface:=by generalize a.eval (.const yc)=yv at hy;cases hy;rfl
   have hq:(Op.equal t .nilIface .nilIface).run P E.w=.ok true E.w:=by unfold Op.equal Op.maxDepth Op.equalIn;simp only[w7,aj hd1,vY];rfl
   have hg:(eqGuard op t x (.const yc) .nilIface .nilIface).run P E.w=.ok () E.w:=by
    cases op<;>first|rfl|(simp[eqGuard])|(cases x<;>rfl)
   split at he
   ·simp only[Xs]at he;subst he;exact⟨rfl,.bool true,by simp[execOp,hop,hp,hy1,hg,binOp,hq],.bool _⟩
   ·simp only[Xs]at he;subst he;exact⟨rfl,.bool false,by simp[execOp,hop,hp,hy1,hg,binOp,hq],.bool _⟩
   ·simp at he
  ·simp at he
 ·rename_i hm hn;rw[hm]at hx;rw[hn]at hy;split at he
  ·rename_i kt e sz by' z ty yc hr
   obtain⟨d,hd1,hd2⟩:=an hT hr rfl;cases d<;>simp[ar]at hd2;have hy1:a.eval (.const yc)=.map none:=by generalize a.eval (.const yc)=yv at hy;cases hy;rfl
   have hq:∀p,(Op.equal t (.map p) (.map none)).run P E.w=.ok p.isNone E.w:=by intro p;unfold Op.equal Op.maxDepth Op.equalIn;simp only[w7,aj hd1,vY];cases p<;>rfl
   have hg:∀p,(eqGuard op t x (.const yc) (.map p) (.map none)).run P E.w=.ok () E.w:=by intro p;cases op<;>first|rfl|(simp[eqGuard])|(cases x<;>rfl)
   obtain⟨p,hp,hpn⟩:∃p,a.eval x=.map p/\p.isNone=true:=by generalize a.eval x=xv at hx;cases hx;exact⟨_,rfl,rfl⟩
   split at he
   ·simp only[Xs]at he;subst he;exact⟨rfl,.bool p.isNone,by simp[execOp,hop,hp,hy1,hg,binOp,hq],by rw[hpn];exact .bool _⟩
   ·simp only[Xs]at he;subst he;exact⟨rfl,.bool (!p.isNone),by simp[execOp,hop,hp,hy1,hg,binOp,hq],by rw[hpn];exact .bool _⟩
   ·simp at he
  ·simp at he
 ·rename_i mi hm hn;rw[hm]at hx;rw[hn]at hy;split at he
  ·rename_i kt e sz by' z ty yc hr
   obtain⟨d,hd1,hd2⟩:=an hT hr rfl;cases d<;>simp[ar]at hd2;have hy1:a.eval (.const yc)=.map none:=by generalize a.eval (.const yc)=yv at hy;cases hy;rfl
   have hq:∀p,(Op.equal t (.map p) (.map none)).run P E.w=.ok p.isNone E.w:=by intro p;unfold Op.equal Op.maxDepth Op.equalIn;simp only[w7,aj hd1,vY];cases p<;>rfl
   have hg:∀p,(eqGuard op t x (.const yc) (.map p) (.map none)).run P E.w=.ok () E.w:=by intro p;cases op<;>first|rfl|(simp[eqGuard])|(cases x<;>rfl)
   obtain⟨p,hp,hpn⟩:∃p,a.eval x=.map p/\p.isNone=false:=by generalize a.eval x=xv at hx;cases hx;exact⟨_,rfl,rfl⟩
   split at he
   ·simp only[Xs]at he;subst he;exact⟨rfl,.bool p.isNone,by simp[execOp,hop,hp,hy1,hg,binOp,hq],by rw[hpn];exact .bool _⟩
   ·simp only[Xs]at he;subst he;exact⟨rfl,.bool (!p.isNone),by simp[execOp,hop,hp,hy1,hg,binOp,hq],by rw[hpn];exact .bool _⟩
   ·simp at he
  ·simp at he
 ·rename_i hm hn;rw[hm]at hx;rw[hn]at hy;split at he
  ·rename_i e sz by' z ty yc hr
   obtain⟨d,hd1,hd2⟩:=an hT hr rfl;cases d<;>simp[ar]at hd2;have hy1:a.eval (.const yc)=.slice none 0 0:=by generalize a.eval (.const yc)=yv at hy;cases hy;rfl
   have hq:∀p n c,(Op.equal t (.slice p n c) (.slice none 0 0)).run P E.w=.ok p.isNone E.w:=by intro p n c;unfold Op.equal Op.maxDepth Op.equalIn;simp only[w7,aj hd1,vY];cases p<;>rfl
   have hg:∀p n c,(eqGuard op t x (.const yc) (.slice p n c) (.slice none 0 0)).run P E.w=.ok () E.w:=by intro p n c;cases op<;>first|rfl|(simp[eqGuard])|(cases x<;>rfl)
   have hp:a.eval x=.slice none 0 0:=by generalize a.eval x=xv at hx;cases hx;rfl
   split at he
   ·simp only[Xs]at he;subst he;exact⟨rfl,.bool true,by simp[execOp,hop,hp,hy1,hg,binOp,hq],.bool _⟩
   ·simp only[Xs]at he;subst he;exact⟨rfl,.bool false,by simp[execOp,hop,hp,hy1,hg,binOp,hq],.bool _⟩
   ·simp at he
  ·simp at he
 ·rename_i I ys o2 hm hn;rw[hm]at hx;rw[hn]at hy;split at he
  ·rename_i e sz by' z ty yc hr
   obtain⟨d,hd1,hd2⟩:=an hT hr rfl;cases d<;>simp[ar]at hd2;have hy1:a.eval (.const yc)=.slice none 0 0:=by generalize a.eval (.const yc)=yv at hy;cases hy;rfl
   have hq:∀p n c,(Op.equal t (.slice p n c) (.slice none 0 0)).run P E.w=.ok p.isNone E.w:=by intro p n c;unfold Op.equal Op.maxDepth Op.equalIn;simp only[w7,aj hd1,vY];cases p<;>rfl
   have hg:∀p n c,(eqGuard op t x (.const yc) (.slice p n c) (.slice none 0 0)).run P E.w=.ok () E.w:=by intro p n c;cases op<;>first|rfl|(simp[eqGuard])|(cases x<;>rfl)
   have key:ys.length≠0->∃q n c,a.eval x=.slice (some q) n c:=by
    intro hne;generalize a.eval x=xv at hx
    cases hx with|lstNil _ _ _=>exact absurd rfl hne|lstVoid _ _=>exact absurd rfl hne|lst _ _ _ b off cap vals h1 h2 tok hc hv=>exact⟨_,_,_,rfl⟩
   split at he
   ·simp only[Xs]at he;subst he;obtain⟨q,n,c,hp⟩:=key ho;exact⟨rfl,.bool false,by simp[execOp,hop,hp,hy1,hg,binOp,hq],.bool _⟩
   ·simp only[Xs]at he;subst he;obtain⟨q,n,c,hp⟩:=key ho;exact⟨rfl,.bool true,by simp[execOp,hop,hp,hy1,hg,binOp,hq],.bool _⟩
   ·simp at he
  ·simp at he
 ·split at he
  ·rename_i cs ds hc hd;obtain⟨xs,hxv,hxl⟩:=fo hx hc;obtain⟨ys,hyv,hyl⟩:=fo hy hd;exact u9 hT hop hxl hxv hyl hyv he
  ·simp at he
theorem ua{op:UnOp}{t:Nat}{x:Operand}(hop:o.op=.unOp op t x):b4 P C o:=by
 refine b4.pure fun F s a E eff h he ho=>?_;simp only[ah,hop]at he;have hx:=aK h x;split at he
 ·rename_i b hb;rw[hb]at hx;simp only[Xs]at he;subst he;exact⟨rfl,.bool (!b),by simp[execOp,hop,hx.bool_inv,Op.unary],.bool _⟩
 ·rename_i k n hn;rw[hn]at hx;simp only[Xs]at he;subst he;obtain⟨h1,h2⟩:=ho;have e:=ej k _ h1 h2;exact⟨rfl,.int k (0-n),by simp only[execOp,hop,hx.int_inv.1,Op.unary,Op.intArith,e];simp,.int k _ h1 h2⟩
 ·simp at he
theorem fX{w:World}{b off:Nat}{f:Field}{i:TypeInfo}(hi:P.info? f.type=some i)(h0:i.size≠0) :
  (fieldPlace ⟨b,off,none⟩ f).run P w=.ok ⟨b,off+f.offset,none⟩ w:=by
 simp only[fieldPlace,w7,bF hi,vY];rw[w5 h0];simp[Addr.add]
theorem iw(hT:aG P C.tbl){t:Nat}{r:TR}(hr:ak C.tbl t=some r){f off ft:Nat}(hf:jM r f=some (off,ft)) :
  ∃fields fd i,P.underlying t=some (.struct fields)/\fields[f]?=some fd/\fd.offset=off/\fd.type=ft/\P.info? ft=some i/\i.size≠0:=by
 unfold jM at hf;split at hf
 ·rename_i fs hti;obtain⟨d,hd1,hd2⟩:=an hT hr hti;cases d<;>simp[ar]at hd2;rename_i fields;obtain⟨h1,h2⟩:=hd2;rw[fT,<-h1]at hf;simp only[wx,wg,we]at hf;obtain⟨fd,hfd,e⟩:=hf;simp at e;have hm:fd∈fields:=Array.mem_of_getElem? hfd;obtain⟨j,hj,hje⟩:=xQ.1 hm;have:=h2 j hj;rw[hje]at this;split at this
  ·rename_i i hi;exact⟨fields,fd,i,hd1,hfd,e.1,e.2,by rw[<-e.2];exact hi,fun h0=>by simp[h0]at this⟩
  ·simp at this
 ·simp at hf
theorem mH(hT:aG P C.tbl){t f:Nat}{x:Operand}(hop:o.op=.fieldAddr t x f):b4 P C o:=by
 refine b4.pure fun F s a E eff h he ho=>?_;simp only[ah,hop]at he;have hx:=aK h x;split at he
 ·rename_i r hr;split at he
  ·rename_i off ft id o' hf hopd;simp only[Xs]at he;subst he;rw[hopd]at hx;obtain⟨b,bo,len,hxv,hxb⟩:=hx.ptr_inv;obtain⟨fields,fd,i,h1,h2,h3,h4,h5,h6⟩:=iw hT hr hf;refine⟨rfl,.pointer (some ⟨b,bo+o'+off,none⟩),?_,?_⟩
   ·simp[execOp,hop,hxv,Instr.fieldAt,aj h1,h2,Instr.sureAddr,fX (P:=P) (w:=E.w) (b:=b) (off:=bo+o') (f:=fd) (by rw[h4];exact h5) h6,h3]
   ·have:=V.ptr (E:=E) id (o'+off) b bo len hxb
    rwa [<-xn]at this
  ·rename_i off ft id n w o' hf hopd;simp only[Xs]at he;subst he;rw[hopd]at hx;obtain⟨b,bo,len,hxv,hxb⟩:=hx.aptr_inv;obtain⟨fields,fd,i,h1,h2,h3,h4,h5,h6⟩:=iw hT hr hf;refine⟨rfl,.pointer (some ⟨b,bo+(n *w+o')+off,none⟩),?_,?_⟩
   ·simp[execOp,hop,hxv,Instr.fieldAt,aj h1,h2,Instr.sureAddr,fX (P:=P) (w:=E.w) (b:=b) (off:=bo+(n *w+o')) (f:=fd) (by rw[h4];exact h5) h6,h3]
   ·have:=V.aptr (E:=E) id n w (o'+off) b bo len hxb;have e:bo+(n *w+o')+off=bo+(n *w+(o'+off)):=by omega
    rw[e];exact this
  ·rename_i off ft c hf hopd;rw[hopd]at hx;obtain⟨fields,fd,i,h1,h2,h3,h4,h5,h6⟩:=iw hT hr hf
   have bY:∀{c':AV},V E (.cptr c) (a.eval x)->(∃n,(a7 c').length<=n/\sub (a7 c) off (a7 c').length=some (a7 c'))->
     eff=.pure (.cptr c')->eff.upd=[]/\∃v,(execOp a.eval o).run P E.w=.ok (.value v) E.w/\V E eff.val v:=by
    intro c' hx hs he;obtain⟨_,_,hs⟩:=hs;subst he;obtain⟨s1,s2⟩:=dL hs;generalize hxe:a.eval x=xv at hx
    cases hx with
    |cptr _ b o' vals k1 k2=>
     refine⟨rfl,.pointer (some ⟨b,o'+off,none⟩),?_,?_⟩
     ·simp[execOp,hop,hxe,Instr.fieldAt,aj h1,h2,Instr.sureAddr,fX (P:=P) (w:=E.w) (b:=b) (off:=o') (f:=fd) (by rw[h4];exact h5) h6,h3]
     ·simp only[Eff.pure]
      have key:∀(j:Nat)(d:AV),(a7 c')[j]?=some d->(a7 c)[off+j]?=some d:=by
       intro j d hd;rw[s2,wv]at hd;split at hd
       ·rwa [wO]at hd
       ·cases hd
      refine .cptr _ b _ (fun j=>vals (off+j)) (fun j d hd=>?_) (fun j d hd=>k2 _ _ (key j d hd));have:=k1 _ _ (key j d hd)
      rwa [<-xn]at this
   have drops:∀{c1:AV} {r1:List AV},gN (a7 c) off=some (c1::r1)->∃n,(a7 (.agg (c1::r1))).length<=n/\sub (a7 c) off (a7 (.agg (c1::r1))).length=some (a7 (.agg (c1::r1))):=by intro c1 r1 hdr;exact⟨_,wj _,nF hdr⟩
   split at he
   ·rename_i n y m hrt hft;split at he
    ·rename_i m' z hz;split at he
     ·rename_i hm;simp only[Xs]at he;refine bY hx ⟨_,wj _,?_⟩ he.symm;have hs:=fV hz;rw[<-aA]at hs;exact hs
     ·simp at he
    ·split at he
     ·rename_i hdr;simp only[Xs]at he;exact bY hx (drops hdr) he.symm
     ·simp at he
   ·split at he
    ·rename_i hdr;simp only[Xs]at he;exact bY hx (drops hdr) he.symm
    ·simp at he
  ·simp at he
 ·simp at he
theorem sq{w:World}{t:Nat}{r:TR}(ht:TF P t r){cs ds:List AV}{x:AV}{off:Nat}{E:Om}{vs:List Value}(hv:VL E cs vs)
 (hs:sub cs off r.size=some ds)(ho:bE r ds=some x):∃v,(part t vs.toArray off).run P w=.ok v w/\V E x v:=by
 have hd:=hv.sub hs;obtain⟨s1,s2⟩:=dL hs;unfold bE at ho;simp only[part,w7,ht.agg,vY];split at ho
 ·rename_i hagg;simp at ho;subst ho;rw[hagg];simp only[wR,w7,ht.size,vY];refine⟨_,rfl,?_⟩;have e:vs.toArray.extract off (off+r.size)=((vs.drop off).take r.size).toArray:=by apply wQ;simp[List.extract_eq_take_drop]
  rw[e];exact V.of_agg hd
 ·rename_i hagg;have hagg':r.isAgg=false:=by simpa using hagg
  rw[hagg'];split at ho
  ·rename_i c;simp at ho;subst ho;have hl:=hd.1;generalize hds:(vs.drop off).take r.size=us at hd hl
   cases us with
   |nil=>simp at hl
   |cons v us=>
    cases us with
    |cons _ _=>simp at hl
    |nil=>
     have hv0:vs[off]?=some v:=by
      have e1:((vs.drop off).take r.size)[0]?=some v:=by rw[hds];rfl
      rw[wv]at e1;split at e1
      ·rw[wO]at e1;simpa using e1
      ·simp at e1
     exact⟨v,by simp[hv0],hd.head⟩
  ·simp at ho
theorem sr(hT:aG P C.tbl){t f:Nat}{x:Operand}(hop:o.op=.field t x f):b4 P C o:=by
 refine b4.pure fun F s a E eff h he ho=>?_;simp only[ah,hop]at he;have hx:=aK h x;split at he
 ·rename_i r hr;split at he
  ·rename_i off ft hf;obtain⟨fields,fd,i,h1,h2,h3,h4,h5,h6⟩:=iw hT hr hf
   have go:∀{rt:TR} {c:AV} {vs:List Value},ak C.tbl ft=some rt->a.eval x=.agg vs.toArray->VL E (a7 c) vs->(gO rt c off).map Eff.pure=some eff->
     eff.upd=[]/\∃v,(execOp a.eval o).run P E.w=.ok (.value v) E.w/\V E eff.val v:=by
    intro rt c vs hrt hxv hvl he;simp only[we]at he;obtain⟨av,ho1,rfl⟩:=he;obtain⟨ds,z,q1,q2,q3⟩:=jj (hT ft rt hrt) ho1;obtain⟨v,hv1,hv2⟩:=sq (P:=P) (w:=E.w) (hT ft rt hrt).tf hvl q1 q2;exact⟨rfl,v,by simp[execOp,hop,hxv,Instr.field,aj h1,h2,asAgg,h4,h3,hv1],q3 _ _ hv2⟩
   split at he
   ·rename_i rt cs hrt hopd;rw[hopd]at hx;obtain⟨vs,hxv,hvl⟩:=hx.agg_inv;exact go (c:=.agg cs) hrt hxv hvl he
   ·rename_i rt n y hrt hopd;rw[hopd]at hx;split at he
    ·generalize hxe:a.eval x=xv at hx
     cases hx with
     |st _ _ _ hx=>obtain⟨vs,hxv,hvl⟩:=hx.agg_inv;exact go (c:=.st n y) hrt (by rw[hxe,hxv]) hvl he
    ·simp at he
   ·simp at he
  ·simp at he
 ·simp at he
end
end Go.AL
end
noncomputable section
namespace Go.AL
variable [Tabs]
section
variable {P:Program} {C:Cfg} {o:Oper}
theorem eL{I M:Ty}{xs:List (den I)}{ys:List (den M)}(h:dc I M xs=some ys):∃e:I=M,e ▸ xs=ys:=by
 unfold dc at h;split at h
 ·rename_i e;simp at h;exact⟨e,h⟩
 ·simp at h
theorem cv{k:IntKind}{n:Int}:asIntOf (.int k n)=pure (k,n):=rfl
theorem V.lst_inv{E:Om}{I:Ty}{xs:List (den I)}{o:Option Nat}{v:Value}(h:V E (.lst I xs o) v) :
  (xs=[]/\v=.slice none 0 0/\di E o 0 v)∨(xs=[]/\o=none/\∃a,v=.slice (some a) 0 0)∨
  ∃b off cap,∃vals:Nat->Nat->Value,v=.slice (some ⟨b,off,none⟩) xs.length cap/\xs.length<=cap/\cap<=aS/\di E o xs.length v/\
   (∀(i:Nat)(x:den I),xs[i]?=some x->∀(j:Nat)(c:AV),(cells I x)[j]?=some c->
    E.pub b (off+(i *a8 I+j))/\E.w.cell? ⟨b,off+(i *a8 I+j),none⟩=some (vals i j))/\
   (∀(i:Nat)(x:den I),xs[i]?=some x->∀(j:Nat)(c:AV),(cells I x)[j]?=some c->V E c (vals i j)):=by
 cases h with|lstNil _ _ ht=>exact Or.inl ⟨rfl,rfl,ht⟩|lstVoid _ a=>exact Or.inr (Or.inl ⟨rfl,rfl,a,rfl⟩)|lst _ _ _ b off cap vals h1 h2 h3 h4 h5=>exact Or.inr (Or.inr ⟨b,off,cap,vals,rfl,h1,h2,h3,h4,h5⟩)
theorem V.elem{E:Om}{I:Ty}{xs:List (den I)}{b off:Nat}{vals:Nat->Nat->Value}(i:Nat)(hi:i<xs.length)
 (h4:∀(i:Nat)(x:den I),xs[i]?=some x->∀(j:Nat)(c:AV),(cells I x)[j]?=some c->
    E.pub b (off+(i *a8 I+j))/\E.w.cell? ⟨b,off+(i *a8 I+j),none⟩=some (vals i j))
 (h5:∀(i:Nat)(x:den I),xs[i]?=some x->∀(j:Nat)(c:AV),(cells I x)[j]?=some c->V E c (vals i j))(d:den I) :
  V E (.cptr (inj I (xs.getD i d))) (.pointer (some ⟨b,off+i *a8 I,none⟩)):=by
 have e:xs[i]?=some (xs.getD i d):=by simp[vZ,hi]
 refine .cptr _ b _ (fun j=>vals i j) (fun j c hc=>?_) (fun j c hc=>h5 i _ e j c (by rwa [gz]at hc));rw[gz]at hc;have:=h4 i _ e j c hc;rw[xn];exact this
theorem mI(hT:aG P C.tbl){t:Nat}{x y:Operand}(hop:o.op=.indexAddr t x y):b4 P C o:=by
 refine b4.pure fun F s a E eff h he ho=>?_;simp only[ah,hop]at he;have hx:=aK h x;have hy:=aK h y;split at he
 ·rename_i e sz by' z ty I xs o' k n hr hopx hopy
  rw[hopx]at hx;rw[hopy]at hy;split at he
  ·rename_i re hre;split at he
   ·rename_i hty;simp only[Xs]at he;subst he;obtain⟨ho1,ho2⟩:=ho;obtain⟨d,hd1,hd2⟩:=an hT hr rfl;cases d<;>simp[ar]at hd2;subst hd2;obtain⟨i,zz,i1,i2,i3,i4,i5⟩:=(hT _ _ hre).info;have hw:=((hT _ _ hre).ty I hty).1;obtain⟨hy1,hy2⟩:=hy.int_inv;rcases hx.lst_inv with⟨h1,_,_⟩|⟨h1,_,_⟩|⟨b,off,cap,vals,hv,h1,h2,h3,h4,h5⟩
    ·subst h1;simp at ho2;omega
    ·subst h1;simp at ho2;omega
    ·refine⟨rfl,.pointer (some ⟨b,off+n.toNat *a8 I,none⟩),?_,V.elem n.toNat (by omega) h4 h5 _⟩;have c1:(0<=n/\n<(xs.length:Int)):=⟨ho1,ho2⟩;simp[execOp,hop,hv,hy1,Instr.indexAt,cv,aj hd1,c1,bF i1,i2,<-hw,Addr.add]
   ·simp at he
  ·simp at he
 ·rename_i e sz by' z ty id m w k n hr hopx hopy
  rw[hopx]at hx;rw[hopy]at hy;split at he
  ·rename_i re hre;split at he
   ·rename_i hty;subst hty;simp only[Xs]at he;subst he;obtain⟨ho1,ho2⟩:=ho;obtain⟨d,hd1,hd2⟩:=an hT hr rfl;cases d<;>simp[ar]at hd2;subst hd2;obtain⟨i,zz,i1,i2,i3,i4,i5⟩:=(hT _ _ hre).info;obtain⟨hy1,hy2⟩:=hy.int_inv;generalize hxe:a.eval x=xv at hx
    cases hx with
    |arr _ _ _ b len cap a' he hl hc1 hc2 hc3=>
     rcases hc3 with rfl|⟨_,h0,_⟩;rotate_left
     ·omega
     refine⟨rfl,.pointer (some ⟨b,n.toNat *re.size,none⟩),?_,?_⟩
     ·have c1:(0<=n/\n<(m:Int)):=⟨ho1,ho2⟩;simp[execOp,hop,hxe,hy1,Instr.indexAt,cv,aj hd1,c1,bF i1,i2,Addr.add];exact fun h0=>h0.symm
     ·have:=V.aptr (E:=E) id n.toNat re.size 0 b 0 len he;simpa using this
   ·simp at he
  ·simp at he
 ·rename_i e sz by' z ty I xs k k' n hr hopx hopy
  rw[hopx]at hx;rw[hopy]at hy;split at he
  ·rename_i re hre;split at he
   ·rename_i hty;simp only[Xs]at he;subst he;have ho1:n=(xs.length:Int):=ho;obtain⟨d,hd1,hd2⟩:=an hT hr rfl;cases d<;>simp[ar]at hd2;subst hd2;obtain⟨i,zz,i1,i2,i3,i4,i5⟩:=(hT _ _ hre).info;have hw:=((hT _ _ hre).ty I hty).1;obtain⟨hy1,hy2⟩:=hy.int_inv;generalize hxe:a.eval x=xv at hx
    cases hx with
    |lstp _ _ _ b off cap vals h1 h2 h3 h4 h5=>
     refine⟨rfl,.pointer (some ⟨b,off+xs.length *a8 I,none⟩),?_,.tptr I xs.length k _ ?_⟩
     ·have c1:(0<=n/\n<((xs.length+1:Nat):Int)):=⟨by omega,by omega⟩;have c2:n.toNat=xs.length:=by omega
      have c3:n<(xs.length:Int)+1:=by omega
      simp[execOp,hop,hxe,hy1,Instr.indexAt,cv,aj hd1,c1,c2,bF i1,i2,<-hw,Addr.add,c3]
     ·obtain⟨m,base,cap',r1,r2,r3⟩:=h3 k rfl;refine⟨m,base,cap',r1,r2,fun e=>?_⟩;have:=r3 e
      cases base with
      |none=>simp[bX]at this
      |some b'=>simp only[bX,wS,Xs,xE,xz,xh]at this;obtain⟨⟨rfl,rfl⟩,_⟩:=this;exact⟨b,rfl,by simp⟩
   ·simp at he
  ·simp at he
 ·rename_i e m sz by' z ty id k n hr hopx hopy
  rw[hopx]at hx;rw[hopy]at hy;split at he
  ·rename_i re hre;simp only[Xs]at he;subst he;obtain⟨ho1,ho2⟩:=ho;obtain⟨d,hd1,hd2⟩:=an hT hr rfl;cases d<;>simp[ar]at hd2;obtain⟨rfl,rfl⟩:=hd2;obtain⟨i,zz,i1,i2,i3,i4,i5⟩:=(hT _ _ hre).info;obtain⟨hy1,hy2⟩:=hy.int_inv;generalize hxe:a.eval x=xv at hx
   cases hx with
   |ptr _ _ b o len he=>
    refine⟨rfl,.pointer (some ⟨b,o+n.toNat *re.size,none⟩),?_,?_⟩
    ·have c1:(0<=n/\n<(m:Int)):=⟨ho1,ho2⟩;simp[execOp,hop,hxe,hy1,Instr.indexAt,Instr.sureAddr,cv,aj hd1,c1,bF i1,i2,Addr.add]
    ·have:=V.aptr (E:=E) id n.toNat re.size 0 b o len he;simpa using this
  ·simp at he
 ·simp at he
theorem su(hT:aG P C.tbl){t:Nat}{x y:Operand}(hop:o.op=.index t x y):b4 P C o:=by
 refine b4.pure fun F s a E eff h he ho=>?_;simp only[ah,hop]at he;have hx:=aK h x;have hy:=aK h y;split at he
 ·rename_i sz by' z ty s' k n hr hopx hopy
  rw[hopx]at hx;rw[hopy]at hy;simp only[Xs]at he;subst he;obtain⟨ho1,ho2⟩:=ho;obtain⟨d,hd1,hd2⟩:=an hT hr rfl;cases d<;>simp[ar]at hd2;obtain⟨hy1,hy2⟩:=hy.int_inv;obtain⟨hx1,hx2⟩:=hx.str_inv;have hlt:n.toNat<s'.length:=by omega
  have hb:(⟨s'.toArray⟩:ByteArray)[n.toNat]?=some s'[n.toNat]:=by
   have e:n.toNat<(⟨s'.toArray⟩:ByteArray).size:=by simpa[ByteArray.size]using hlt
   exact getElem?_pos (⟨s'.toArray⟩:ByteArray) n.toNat e
  refine⟨rfl,.int .u8 (s'[n.toNat].toNat:Int),?_,?_⟩
  ·simp only[execOp,hop,hx1,hy1,Instr.index,cv,w7,wy,vY,aj hd1];rw[wh ho1,hb];rfl
  ·have e:s'.getD n.toNat 0=s'[n.toNat]:=by simp[vZ,hlt]
   rw[e];refine .int .u8 _ ?_ ?_
   ·simp[IntKind.min,IntKind.signed]
   ·have:=s'[n.toNat].toNat_lt;simp[IntKind.max,IntKind.signed,IntKind.bits];omega
 ·simp at he
theorem fY{F:Fr}{s:AS}{a:Act}{E:Om}(h:Holds F s a E){x:Option Operand}{n:Option Int}(hb:bnd s.T x=some n) :
  x.map a.eval=n.map fun n=>.int .i64 n:=by
 cases x with
 |none=>simp[bnd]at hb;subst hb;rfl
 |some x=>
  simp only[bnd]at hb;split at hb
  ·rename_i m hm;simp at hb;subst hb;have:=aK h x;rw[hm]at this;simp[this.int_inv.1]
  ·simp at hb
theorem gA{w:World}{n:Int}{y:Nat}{code:BoundsCode}(h0:0<=n)(h1:n<=(y:Int)):(Instr.sliceBound (.int .i64 n) y code).run P w=.ok n.toNat w:=by simp[Instr.sliceBound,cv,h0,h1]
theorem fq{w:World}{isSlice:Bool}{len cap:Nat}{l h:Option Int}(hl:0<=l.getD 0)(hlh:l.getD 0<=h.getD len)(hh:h.getD len<=len)(hc:len<=cap) :
  (Instr.sliceBounds isSlice len cap (l.map fun n=>.int .i64 n) (h.map fun n=>.int .i64 n) none).run P w=
   .ok ((l.getD 0).toNat,(h.getD len).toNat,cap) w:=by
 cases l<;>cases h<;>simp[Instr.sliceBounds]at *<;> (try simp[gA, *])
 ·rename_i h';have:(h':Int)<=cap:=by omega
  rw[gA hlh this];simp
 ·rename_i l' h';have:(h':Int)<=cap:=by omega
  rw[gA (by omega) this];simp;rw[gA hl (by omega)];simp
theorem sw(hT:aG P C.tbl){t:Nat}{x:Operand}{lo hi:Option Operand}(hop:o.op=.slice t x lo hi none):b4 P C o:=by
 refine b4.pure fun F s a E eff h he ho=>?_;simp only[ah,hop,se]at he;have hx:=aK h x;split at he
 ·rename_i sz by' z ty s' l u hr hopx hlo hhi
  rw[hopx]at hx;simp only[Xs]at he;subst he;obtain⟨ho1,ho2,ho3⟩:=ho;obtain⟨d,hd1,hd2⟩:=an hT hr rfl;cases d<;>simp[ar]at hd2;obtain⟨hx1,hx2⟩:=hx.str_inv;have hb:=fq (P:=P) (w:=E.w) (isSlice:=false) (len:=s'.length) (cap:=s'.length) ho1 ho2 ho3 (wj _);have e:(⟨s'.toArray⟩:ByteArray).extract (l.getD 0).toNat (u.getD s'.length).toNat=⟨((s'.take (u.getD s'.length).toNat).drop (l.getD 0).toNat).toArray⟩:=by apply ByteArray.ext;apply wQ;simp[List.extract_eq_take_drop,List.drop_take]
  refine⟨rfl,.string ⟨((s'.take (u.getD s'.length).toNat).drop (l.getD 0).toNat).toArray⟩,?_,.str _ ?_⟩
  ·simp only[execOp,hop,hx1,Instr.sliceAt,Instr.slice,w7,aj hd1,vY,fY h hlo,fY h hhi,yy];simp only[Option.isSome_none,wX,wA,w7];have hsz:(⟨s'.toArray⟩:ByteArray).size=s'.length:=rfl;rw[hsz,hb];simp[e]
  ·have:((s'.take (u.getD s'.length).toNat).drop (l.getD 0).toNat).length<=s'.length:=by simp;omega
   omega
 ·rename_i e sz by' z ty I xs o' l u hr hopx hlo hhi
  rw[hopx]at hx;split at he
  ·rename_i re hre;split at he
   ·rename_i hty;simp only[Xs]at he;subst he;obtain⟨ho1,ho2,ho3⟩:=ho;obtain⟨d,hd1,hd2⟩:=an hT hr rfl;cases d<;>simp[ar]at hd2;subst hd2;obtain⟨i,zz,i1,i2,i3,i4,i5⟩:=(hT _ _ hre).info;have hw:=((hT _ _ hre).ty I hty).1;rcases hx.lst_inv with⟨h1,hv,_⟩|⟨h1,_,a0,hv⟩|⟨b,off,cap,vals,hv,h1,h2,h3,h4,h5⟩;rotate_left
    ·subst h1;simp only[xg]at ho2 ho3;have el:(l.getD 0).toNat=0:=by simp at ho2 ho3;omega
     have eu:(u.getD ((0:Nat):Int)).toNat=0:=by simp at ho2 ho3⊢;omega
     have hb:=fq (P:=P) (w:=E.w) (isSlice:=true) (len:=0) (cap:=0) ho1 ho2 ho3 (wj _);refine⟨rfl,.slice (some a0) 0 0,?_,?_⟩
     ·simp only[execOp,hop,hv,Instr.sliceAt,Instr.slice,w7,aj hd1,vY,fY h hlo,fY h hhi,yy];rw[hb];simp only[el,eu,vY,bF i1,wy];simp
     ·have e0:∀m n:Nat,(([]:List (den I)).take m).drop n=[]:=by simp
      show V E (.lst I _ none) _;rw[e0];exact .lstVoid I a0
    rotate_right
    ·subst h1;simp only[xg]at ho2 ho3;have el:(l.getD 0).toNat=0:=by simp at ho2 ho3;omega
     have eu:(u.getD ((0:Nat):Int)).toNat=0:=by simp at ho2 ho3⊢;omega
     have hb:=fq (P:=P) (w:=E.w) (isSlice:=true) (len:=0) (cap:=0) ho1 ho2 ho3 (wj _);refine⟨rfl,.slice none 0 0,?_,?_⟩
     ·simp only[execOp,hop,hv,Instr.sliceAt,Instr.slice,w7,aj hd1,vY,fY h hlo,fY h hhi,yy];rw[hb];simp only[el,eu,vY,bF i1,wy];simp
     ·have e0:∀m n:Nat,(([]:List (den I)).take m).drop n=[]:=by simp
      show V E (.lst I _ none) _;rw[e0];exact .lstNil I none (fun id hid=>by simp at hid)
    ·have hb:=fq (P:=P) (w:=E.w) (isSlice:=true) (len:=xs.length) (cap:=cap) ho1 ho2 ho3 h1;generalize hln:(l.getD 0).toNat=ln at *
     generalize hun:(u.getD (xs.length:Int)).toNat=un at *
     have hle:ln<=un:=by omega
     have hue:un<=xs.length:=by omega
     have hlen:((xs.take un).drop ln).length=un-ln:=by simp;omega
     have hsz:i.size=a8 I:=by rw[i2,<-hw]
     have hget:∀(j:Nat)(y:den I),((xs.take un).drop ln)[j]?=some y->xs[ln+j]?=some y:=by
      intro j y hj;rw[wO,wv]at hj;split at hj
      ·exact hj
      ·simp at hj
     refine⟨rfl,.slice (some (if cap=ln then⟨b,off,none⟩else⟨b,off+ln *a8 I,none⟩)) (un-ln) (cap-ln),?_,?_⟩
     ·simp only[execOp,hop,hv,Instr.sliceAt,Instr.slice,w7,aj hd1,vY,fY h hlo,fY h hhi,yy];rw[hb];simp[bF i1,hsz,Addr.add];split
      ·rfl
      ·simp
     ·by_cases hcl:cap=ln
      ·rw[wh hcl];have:un=ln:=by omega
       have hnil:(xs.take un).drop ln=[]:=wi (by omega);rw[hnil];have:=V.lst (E:=E) I [] none b off (cap-ln) (fun _ _=>undef) (by simp) (by omega) (fun id hid=>by simp at hid) (fun i x hx=>by simp at hx) (fun i x hx=>by simp at hx);simpa[show un-ln=0 from by omega]using this
      ·rw[w5 hcl];rw[<-hlen];refine .lst I _ none b _ (cap-ln) (fun j=>vals (ln+j)) (by omega) (by omega) (fun id hid=>by simp at hid) (fun j y hj k c hc=>?_) (fun j y hj k c hc=>?_)
       ·have:=h4 _ y (hget j y hj) k c hc;have e:off+ln *a8 I+(j *a8 I+k)=off+((ln+j) *a8 I+k):=by rw[wD];omega
        rw[e];exact this
       ·exact h5 _ y (hget j y hj) k c hc
   ·simp at he
  ·simp at he
 ·simp at he
theorem p8{x:Operand}{i:Nat}(hop:o.op=.extract x i):b4 P C o:=by
 refine b4.pure fun F s a E eff h he ho=>?_;simp only[ah,hop]at he;have hx:=aK h x;split at he
 ·rename_i cs hcs;rw[hcs]at hx;obtain⟨vs,hv,hvl⟩:=hx.tup_inv;simp only[we]at he;obtain⟨c,hc,rfl⟩:=he;rw[fT]at hc
  have hi:i<vs.length:=by
   rw[<-hvl.1];rcases w4 i cs.length with k|k
   ·exact k
   ·rw[vX k]at hc;simp at hc
  refine⟨rfl,vs[i],?_,hvl.2 i c _ hc (vV hi)⟩;simp[execOp,hop,hv,Instr.extract,hi]
 ·simp at he
theorem ek{n:Nat}(h:n<=aS):IntKind.i64.min<=(n:Int)/\(n:Int)<=IntKind.i64.max:=by unfold aS at h;simp[IntKind.min,IntKind.max,IntKind.signed,IntKind.bits];omega
theorem vd(hT:aG P C.tbl){args:Array Operand}{ts:Array Nat}(hop:o.op=.call {callee:=.builtin .len,args:=args,argTypes:=ts}):b4 P C o:=by
 refine b4.pure fun F s a E eff h he ho=>?_;simp only[ah,hop,uZ]at he;split at he
 ·rename_i x t hargs hts;have ha:args=#[x]:=by apply wQ;simpa using hargs
  have ht:ts=#[t]:=by apply wQ;simpa using hts
  subst ha ht;have hx:=aK h x;split at he
  ·rename_i sz by' z ty s' hr hopx
   rw[hopx]at hx;simp only[Xs]at he;subst he;obtain⟨d,hd1,hd2⟩:=an hT hr rfl;cases d<;>simp[ar]at hd2;obtain⟨hx1,hx2⟩:=hx.str_inv;obtain⟨b1,b2⟩:=ek hx2;refine⟨rfl,.int .i64 (s'.length:Int),?_,.int .i64 _ b1 b2⟩;simp[execOp,hop,resolve,invoke,builtin,hx1,Builtin.len_,aj hd1,goInt];rfl
  ·rename_i e sz by' z ty I xs o' hr hopx
   rw[hopx]at hx;simp only[Xs]at he;subst he;obtain⟨d,hd1,hd2⟩:=an hT hr rfl;cases d<;>simp[ar]at hd2;rcases hx.lst_inv with⟨h1,hv,_⟩|⟨h1,_,a0,hv⟩|⟨b,off,cap,vals,hv,h1,h2,h3,h4,h5⟩;rotate_left
   ·subst h1;obtain⟨b1,b2⟩:=ek (n:=0) (by unfold aS;omega);refine⟨rfl,.int .i64 0,?_,.int .i64 _ b1 b2⟩;simp[execOp,hop,resolve,invoke,builtin,hv,Builtin.len_,aj hd1,goInt]
   rotate_right
   ·subst h1;obtain⟨b1,b2⟩:=ek (n:=0) (by unfold aS;omega);refine⟨rfl,.int .i64 0,?_,.int .i64 _ b1 b2⟩;simp[execOp,hop,resolve,invoke,builtin,hv,Builtin.len_,aj hd1,goInt]
   ·obtain⟨b1,b2⟩:=ek (n:=xs.length) (by omega);refine⟨rfl,.int .i64 (xs.length:Int),?_,.int .i64 _ b1 b2⟩;simp[execOp,hop,resolve,invoke,builtin,hv,Builtin.len_,aj hd1,goInt]
  ·rename_i e sz by' z ty hr hopx
   rw[hopx]at hx;simp only[Xs]at he;subst he;obtain⟨d,hd1,hd2⟩:=an hT hr rfl;cases d<;>simp[ar]at hd2;obtain⟨b1,b2⟩:=ek (n:=0) (by unfold aS;omega);refine⟨rfl,.int .i64 0,?_,.int .i64 _ b1 b2⟩;simp[execOp,hop,resolve,invoke,builtin,hx.nils_inv,Builtin.len_,aj hd1,goInt]
  ·rename_i e sz by' z ty id n w hr hopx
   rw[hopx]at hx;simp only[Xs]at he;subst he;obtain⟨d,hd1,hd2⟩:=an hT hr rfl;cases d<;>simp[ar]at hd2;generalize hxe:a.eval x=xv at hx
   cases hx with
   |arr _ _ _ b len cap a' he hl hc1 hc2 hc3=>obtain⟨b1,b2⟩:=ek (n:=n) (by omega);refine⟨rfl,.int .i64 n,?_,.int .i64 _ b1 b2⟩;simp[execOp,hop,resolve,invoke,builtin,hxe,Builtin.len_,aj hd1,goInt]
  ·rename_i e sz by' z ty id k' hr hopx
   rw[hopx]at hx;split at he
   ·rename_i U I m hm;simp only[Xs]at he;subst he;obtain⟨d,hd1,hd2⟩:=an hT hr rfl;cases d<;>simp[ar]at hd2;generalize hxe:a.eval x=xv at hx
    cases hx with
    |map _ r he=>obtain⟨r',e1,e2,es,clock,e3,e4⟩:=h.slots _ _ hm;rw[he]at e1;simp only[Xs,CObj.obj.injEq]at e1;subst e1;have hle:m.length<=aS:=ho;obtain⟨b1,b2⟩:=ek (n:=m.length) hle;refine⟨rfl,.int .i64 m.length,?_,.int .i64 _ b1 b2⟩;simp[execOp,hop,resolve,invoke,builtin,hxe,Builtin.len_,aj hd1,goInt,getObj,Sem.run,e3,e4.size]
   ·simp at he
  ·simp at he
 ·simp at he
end
end Go.AL
end
noncomputable section
namespace Go.AL
variable [Tabs]
section
variable {P:Program} {C:Cfg} {o:Oper}
theorem VL.take{E:Om}{cs:List AV}{vs:List Value}(h:VL E cs vs)(n:Nat):VL E (cs.take n) (vs.take n):=by
 refine⟨by simp[h.1],fun j c v hc hv=>?_⟩;rw[wv]at hc hv;split at hc
 ·rename_i hj;rw[wh hj]at hv;exact h.2 j c v hc hv
 ·simp at hc
theorem VL.drop{E:Om}{cs:List AV}{vs:List Value}(h:VL E cs vs)(n:Nat):VL E (cs.drop n) (vs.drop n):=by refine⟨by simp[h.1],fun j c v hc hv=>?_⟩;rw[wO]at hc hv;exact h.2 _ c v hc hv
theorem kn:∀(cs vs ds:List AV),fP cs vs=some ds->vs.length<=cs.length/\ds=vs++cs.drop vs.length
 |cs,[],ds,h=>by cases cs<;>simp[fP]at h<;>simp[h]
 |[],_::_,ds,h=>by simp[fP]at h
 |c::cs,v::vs,ds,h=>by
  simp only[fP]at h;split at h
  ·rename_i l hl;obtain⟨h1,h2⟩:=kn cs vs l hl;simp at h;exact⟨by simp;omega,by simp[<-h,h2]⟩
  ·simp at h
theorem cH:∀(cs:List AV)(off:Nat)(vs ds:List AV),splice cs off vs=some ds->
  off+vs.length<=cs.length/\ds=cs.take off++vs++cs.drop (off+vs.length)
 |cs,0,vs,ds,h=>by
  have h':fP cs vs=some ds:=by cases cs<;>simpa[splice]using h
  obtain⟨h1,h2⟩:=kn _ _ _ h';exact⟨by omega,by simp[h2]⟩
 |[],n+1,vs,ds,h=>by simp[splice]at h
 |c::cs,n+1,vs,ds,h=>by
  simp only[splice]at h;split at h
  ·rename_i l hl;obtain⟨h1,h2⟩:=cH cs n vs l hl;simp at h;refine⟨by simp;omega,?_⟩;rw[<-h,h2,show n+1+vs.length=(n+vs.length)+1 from by omega];simp
  ·simp at h
theorem VL.splice{E:Om}{cs ds es:List AV}{us ws:List Value}{off:Nat}(h:VL E cs us)(k:VL E ds ws)(hs:splice cs off ds=some es) :
  VL E es (us.take off++ws++us.drop (off+ws.length)):=by
 obtain⟨h1,h2⟩:=cH _ _ _ _ hs;subst h2;rw[<-k.1];exact((h.take off).append k).append (h.drop _)
theorem dV(B:Nat->Option SObj)(k:Nat)(x:SObj):b7 B [(k,x)]=fun j=>if k=j then some x else B j:=rfl
theorem Holds.slot{F:Fr}{s:AS}{a:Act}{E:Om}{k:Nat}{c:CObj}{obj:SObj}{w':World}{pub':Nat->Nat->Prop}{dst:Option Nat}{val:AV}{v:Value}
 (h:Holds F s a E)(hx:Ext E ⟨fun i=>if k=i then some c else E.e i,w',pub'⟩)
 (hslot:aL ⟨fun i=>if k=i then some c else E.e i,w',pub'⟩ F.own k obj)
 (hold:∀i c',i≠k->E.e i=some c'->iu E ⟨fun i=>if k=i then some c else E.e i,w',pub'⟩ c')
 (hnew:∀i c' b o,i≠k->E.e i=some c'->occ c' b o->occ c b o->False)
 (hp:∀b o,pub' b o->∃v,w'.cell? ⟨b,o,none⟩=some v)
 (hf:FrameOK F ⟨fun i=>if k=i then some c else E.e i,w',pub'⟩)
 (hv:V ⟨fun i=>if k=i then some c else E.e i,w',pub'⟩ val v)(hd:∀d,dst=some d->d<F.n) :
  Holds F ⟨aZ s.T dst val,b7 s.B [(k,obj)]⟩ (a.put dst v) ⟨fun i=>if k=i then some c else E.e i,w',pub'⟩:=by
 refine h.step hx hv hd (fun id o ho=>?_) (fun id hid=>?_) (fun i j ci cj b o hi hj hbi hbj=>?_) hp hf
 ·simp only[dV]at ho;by_cases hk:k=id
  ·subst hk;simp at ho;subst ho;exact hslot
  ·rw[w5 hk]at ho;exact(h.slots id o ho).keep hx (by simp[hk]) (fun c' hc'=>hold id c' (fun e=>hk e.symm) hc')
 ·simp only[dV]at hid;by_cases hk:k=id
  ·subst hk;simp at hid
  ·rw[w5 hk]at hid;simp only[w5 hk];exact h.dom id hid
 ·by_cases hi':k=i<;>by_cases hj':k=j
  ·omega
  ·simp only[wh hi',w5 hj',Xs]at hi hj;subst hi;exact(hnew j cj b o (fun e=>hj' e.symm) hj hbj hbi).elim
  ·simp only[w5 hi',wh hj',Xs]at hi hj;subst hj;exact(hnew i ci b o (fun e=>hi' e.symm) hi hbi hbj).elim
  ·simp only[w5 hi',w5 hj']at hi hj;exact h.inj i j ci cj b o hi hj hbi hbj
theorem dj(w:World)(x:Obj)(b:Nat)(hb:b<w.heap.size):(w.alloc x).heap[b]?=w.heap[b]?:=by show(w.heap.push x)[b]?=_;rw[y7,w5 (by omega)]
theorem b6(w:World)(x:Obj):(w.alloc x).heap[w.heap.size]?=some x:=by show(w.heap.push x)[w.heap.size]?=_;simp
theorem Holds.cell_lt{F:Fr}{s:AS}{a:Act}{E:Om}(h:Holds F s a E){b o:Nat}(hp:E.pub b o):b<E.w.heap.size:=by obtain⟨v,hv⟩:=h.pubok b o hp;exact ay hv
theorem Holds.alloc{F:Fr}{s:AS}{a:Act}{E:Om}{d:Nat}{c:CObj}{obj:SObj}{x:Obj}{p:Nat->Prop}{dst:Option Nat}{val:AV}{v:Value}
 (h:Holds F s a E)(hn:E.e d=none∨∃c0,E.e d=some c0/\CLe c0 c)(hc:∀b o,occ c b o->b=E.w.heap.size)
 (hslot:Ext E ⟨fun i=>if d=i then some c else E.e i,E.w.alloc x,fun b o=>E.pub b o∨(b=E.w.heap.size/\p o)⟩->
   aL ⟨fun i=>if d=i then some c else E.e i,E.w.alloc x,fun b o=>E.pub b o∨(b=E.w.heap.size/\p o)⟩ F.own d obj)
 (hcell:∀o,p o->∃v,(E.w.alloc x).cell? ⟨E.w.heap.size,o,none⟩=some v)
 (hv:Ext E ⟨fun i=>if d=i then some c else E.e i,E.w.alloc x,fun b o=>E.pub b o∨(b=E.w.heap.size/\p o)⟩->
   V ⟨fun i=>if d=i then some c else E.e i,E.w.alloc x,fun b o=>E.pub b o∨(b=E.w.heap.size/\p o)⟩ val v)(hd:∀d,dst=some d->d<F.n) :
  Holds F ⟨aZ s.T dst val,b7 s.B [(d,obj)]⟩ (a.put dst v)
   ⟨fun i=>if d=i then some c else E.e i,E.w.alloc x,fun b o=>E.pub b o∨(b=E.w.heap.size/\p o)⟩:=by
 have hx:Ext E ⟨fun i=>if d=i then some c else E.e i,E.w.alloc x,fun b o=>E.pub b o∨(b=E.w.heap.size/\p o)⟩:=by
  refine⟨fun id c' hc'=>?_,fun b o hp=>Or.inl hp,fun b o hp=>ab (dj _ _ _ (h.cell_lt hp)) o⟩;by_cases hid:d=id
  ·subst hid;rcases hn with hn|⟨c0,hn,hl⟩
   ·rw[hn]at hc';cases hc'
   ·rw[hn]at hc';simp at hc';subst hc';exact⟨c,by simp,hl⟩
  ·exact⟨c',by simp[hid,hc'],CLe.refl _⟩
 refine h.slot hx (hslot hx) (fun i c' hi he=>iu.of_blocks fun b o hb=>?_) (fun i c' b o hi he hb hb'=>?_) (fun b o hp=>?_) ?_ (hv hx) hd
 ·have hlt:=h.blk he hb;exact⟨dj _ _ _ hlt,fun o ho=>ho.resolve_right (fun e=>by omega)⟩
 ·have hlt:=h.blk he hb;have:=hc b o hb';omega
 ·rcases hp with hp|⟨rfl,hp⟩
  ·obtain⟨v,hv⟩:=h.pubok b o hp;exact⟨v,by rw[ab (dj _ _ _ (h.cell_lt hp)),hv]⟩
  ·exact hcell o hp
 ·have hsz:=h.frame.size;refine⟨h.frame.os,h.frame.tape,h.frame.output,by simp;omega,fun b hb hnb=>?_,fun b o hb hnb=>?_,fun b hb=>?_,fun b o hp=>?_,fun b o hp=>Or.inl (h.frame.old b o hp),fun b o hp=>(hx.cell b o (h.frame.old b o hp)).trans (h.frame.pcell b o hp)⟩
  ·show(E.w.alloc x).heap[b]?=_;rw[dj _ _ _ (by omega)];exact h.frame.block b hb hnb
  ·exact(ab (dj E.w x b (by omega)) o).trans (h.frame.cell b o hb hnb)
  ·intro hnb;obtain⟨k1,k2⟩:=h.frame.kind b hb hnb;exact⟨(aJ (dj E.w x b (by omega))).trans k1,fun o=>(az (dj E.w x b (by omega)) o).trans (k2 o)⟩
  ·rcases hp with hp|⟨rfl,hp⟩
   ·exact h.frame.pub b o hp
   ·exact Or.inr (Or.inl h.frame.size)
theorem Holds.newVar{F:Fr}{s:AS}{a:Act}{E:Om}{d:Nat}{c:AV}{vs:Array Value}{ty:Nat}
 (h:Holds F s a E)(hB:s.B d=none)(hv:VL E (a7 c) vs.toList)(hd:d<F.n) :
  ∃E',E'.w=E.w.alloc (.cells vs ty)/\
   Holds F ⟨aZ s.T (some d) (.ptr d 0),b7 s.B [(d,.box c)]⟩ (a.put (some d) (.pointer (some ⟨E.w.heap.size,0,none⟩))) E':=by
 refine⟨_,rfl,h.alloc (c:=.box E.w.heap.size 0 (a7 c).length) (p:=fun _=>False) (Or.inl (h.dom d hB)) (fun b o hb=>hb.1) (fun hx=>?_) (fun _ hf=>hf.elim) (fun hx=>?_) (fun d' hd'=>by simp at hd';subst hd';exact hd)⟩
 ·refine⟨E.w.heap.size,0,by simp,fun j c' hc=>?_⟩
  have hj:j<vs.size:=by
   have h1:(a7 c).length=vs.toList.length:=hv.1;have h2:vs.toList.length=vs.size:=xr;rcases w4 j (a7 c).length with k|k
   ·rw[<-h2,<-h1];exact k
   ·rw[vX k]at hc;cases hc
  have hcells:(E.w.alloc (.cells vs ty)).heap[E.w.heap.size]?=some (.cells vs ty (0,0)):=b6 _ _;refine⟨Or.inl h.frame.size,fun hp=>?_,cb hcells _,vs[j],?_,(hv.2 j c' _ hc (by simp[hj])).ext hx⟩
  ·rcases hp with hp|⟨_,hp⟩
   ·have:=h.cell_lt hp;omega
   ·exact hp
  ·simp only[xf];rw[al hcells];simp[hj]
 ·have:=V.ptr (E:=⟨fun i=>if d=i then some (.box E.w.heap.size 0 (a7 c).length)else E.e i,E.w.alloc (.cells vs ty),fun b o=>E.pub b o∨(b=E.w.heap.size/\False)⟩) d 0 E.w.heap.size 0 (a7 c).length (by simp);simpa using this
theorem hE{w:World}{t:Nat}{v:Value}:(newVar t v).run P w=.ok ⟨w.heap.size,0,none⟩ (w.alloc (.cells v.cells t)):=by simp[newVar,newRow]
theorem nH(v:Value):a7 (aW v)=[aW v]:=by unfold aW;split<;>(try split)<;>rfl
theorem mJ{v:Value}(h:aW v=.nilp):v=.pointer none:=by unfold aW at h;split at h<;>(try split at h)<;>first|rfl|cases h
theorem mK{v:Value}(h:aW v=.nils):v=.slice none 0 0:=by unfold aW at h;split at h<;>(try split at h)<;>first|rfl|cases h
theorem ko:∀{l:List AV},tU l=true->aH (.int .i64) (List.replicate l.length (0:Int))=l
 |[],_=>rfl
 |c::r,h=>by
  unfold tU at h;split at h
  ·rename_i h1;cases h1
  ·rename_i r' h1;simp only[wY]at h1;obtain⟨rfl,rfl⟩:=h1;have ih:=ko h;simp only[wo,List.replicate_succ,aH,xR]at ih⊢;rw[ih];rfl
  ·cases h
theorem sx(hT:aG P C.tbl){e:Nat}(hop:o.op=.alloc e):b4 P C o:=by
 intro F s a E eff next Q h hd he ho hn
 simp only[ah,hop]at he;split at he
 ·rename_i d r hdst hr;split at he
  ·rename_i u hu;split at he
   ·rename_i hB;simp only[Xs]at he;subst he;obtain⟨i,z,i1,i2,i3,i4,i5⟩:=(hT _ _ hr).info
    have hz0:r.zero=[.nilp,.nils]:=by
     unfold uJ at hu;split at hu
     ·assumption
     ·cases hu
    rw[hz0]at i5
    have hz:z.cells=#[.pointer none,.slice none 0 0]:=by
     match hl:z.cells.toList,i5 with
     |[],i5=>cases i5
     |[_],i5=>simp at i5
     |_::_::_::_,i5=>simp at i5
     |[x,y],i5=>simp only[wu,yR,wY,xh]at i5;have hx:x=.pointer none:=mJ i5.1;have hy:y=.slice none 0 0:=mK i5.2;subst hx hy;exact Array.toList_inj.1 hl
    have hnew:(E.w.alloc (.cells #[.pointer none,.slice none 0 0] e)).heap[E.w.heap.size]?=some (.cells #[.pointer none,.slice none 0 0] e (0,0)):=b6 _ _
    have hh:=h.alloc (d:=d) (c:=.bld E.w.heap.size none) (obj:=.bld e u []) (x:=.cells #[.pointer none,.slice none 0 0] e) (p:=fun _=>False) (dst:=some d) (val:=.bptr d) (v:=.pointer (some ⟨E.w.heap.size,0,none⟩))
     (Or.inl (h.dom d hB)) (fun b o hb=>by rcases hb with hb|hb;exact hb;cases hb)
     (fun hx=>by
      refine⟨E.w.heap.size,none,by simp,fun b' hb o=>?_,.pointer none,.slice none 0 0,hnew,.inl rfl,rfl,by simp,World.ownsRowF_nil _ _ _ _,fun _=>rfl⟩;rcases hb with rfl|hb
      ·refine⟨Or.inl h.frame.size,fun hp=>?_⟩;rcases hp with hp|⟨_,hp⟩
       ·have:=h.cell_lt hp;omega
       ·exact hp
      ·cases hb)
     (fun _ hf=>hf.elim) (fun hx=>.bptr d E.w.heap.size none (by simp)) (fun d' hd'=>by simp at hd';subst hd';exact hd d hdst)
    refine ai (v:=.pointer (some ⟨E.w.heap.size,0,none⟩)) (w':=E.w.alloc (.cells z.cells e)) ?_ ?_
    ·simp[execOp,hop,Instr.alloc,cG i1 i4,hE]
    ·rw[hz];rw[hdst]at hn⊢;exact hn _ _ hh
   ·simp at he
  split at he
  ·rename_i c hB hz;simp only[Xs]at he;subst he;obtain⟨i,z,i1,i2,i3,i4,i5⟩:=(hT _ _ hr).info
   have hc:a7 c=r.zero:=by
    unfold qm at hz;split at hz
    ·split at hz
     ·rename_i hzz;simp only[vW]at hzz;simp only[Xs]at hz;subst hz;rw[<-aV _ _ hzz.2];exact ko hzz.1
     ·cases hz
    split at hz
    ·simp only[Xs]at hz;subst hz;rfl
    ·split at hz
     ·rename_i c1 hzz;simp only[Xs]at hz;subst hz;rw[hzz]at i5
      match hl:z.cells.toList,i5 with
      |[u],i5=>simp only[wu,yR,wY,xh]at i5;rw[<-i5,nH,i5,hzz]
     ·cases hz
   have hvl:VL E (a7 c) z.cells.toList:=by rw[hc,<-i5];exact kl E _
   obtain⟨E',hw,hh⟩:=h.newVar (ty:=e) hB hvl (hd d hdst);refine ai (v:=.pointer (some ⟨E.w.heap.size,0,none⟩)) (w':=E.w.alloc (.cells z.cells e)) ?_ ?_
   ·simp[execOp,hop,Instr.alloc,cG i1 i4,hE]
   ·rw[<-hw];rw[hdst]at hn⊢;exact hn _ _ hh
  ·simp at he
 ·simp at he
theorem ve{e:Nat}{x:Operand}(hop:o.op=.box e x):b4 P C o:=by
 intro F s a E eff next Q h hd he ho hn
 simp only[ah,hop]at he;split at he
 ·rename_i d r hdst hr;split at he
  ·rename_i hB;split at he
   ·rename_i hl;simp only[Xs]at he;subst he;simp only[vW]at hl;have hvl:=(aK h x).parts hl.1;obtain⟨E',hw,hh⟩:=h.newVar (ty:=e) hB hvl (hd d hdst);refine ai (v:=.pointer (some ⟨E.w.heap.size,0,none⟩)) (w':=E.w.alloc (.cells (a.eval x).cells e)) ?_ ?_
    ·simp[execOp,hop,Instr.box,hE]
    ·rw[<-hw];rw[hdst]at hn⊢;exact hn _ _ hh
   ·simp at he
  ·simp at he
 ·simp at he
theorem lS(off:Nat):∀(vs:List Value)(i:Nat)(cs:Array Value),off+i+vs.length<=cs.size->
  (vs.zipIdx i).foldl (fun(cs:Array Value)(x:Value×Nat)=>cs.setIfInBounds (off+x.2) x.1) cs=
   (cs.toList.take (off+i)++vs++cs.toList.drop (off+i+vs.length)).toArray
 |[],i,cs,_=>by simp
 |v::vs,i,cs,h=>by
  simp at h;simp only[List.zipIdx_cons,yz];rw[lS off vs (i+1) _ (by simp;omega)];apply wQ;have hi:off+i<cs.toList.length:=by simp;omega
  simp only[Array.toList_setIfInBounds,wo];rw[yg,wh hi]
  have e1:(List.take (off+i) cs.toList++v::List.drop (off+i+1) cs.toList).take (off+(i+1))=List.take (off+i) cs.toList++[v]:=by
   rw[List.take_append,xM (by simp;omega)];congr 1;have:off+(i+1)-(List.take (off+i) cs.toList).length=1:=by simp;omega
   rw[this];rfl
  have e2:(List.take (off+i) cs.toList++v::List.drop (off+i+1) cs.toList).drop (off+(i+1)+vs.length)=List.drop (off+i+(vs.length+1)) cs.toList:=by
   rw[List.drop_append,List.drop_of_length_le (by simp;omega),wZ];have:off+(i+1)+vs.length-(List.take (off+i) cs.toList).length=vs.length+1:=by simp;omega
   rw[this,xF,List.drop_drop];congr 1;omega
  rw[e1,e2];simp
theorem lT{place:Nat->Option (Nat×Nat)}{cells:Array Value}{i:Nat}{v:Value}{rest:List (Nat×Value)}{off size:Nat}
 (hp:place i=some (off,size))(hs:v.cells.size=size)(hl:off+v.cells.size<=cells.size) :
  Instr.fill place cells ((i,v)::rest)=
   Instr.fill place (cells.toList.take off++v.cells.toList++cells.toList.drop (off+v.cells.size)).toArray rest:=by
 simp only[Instr.fill,hp];rw[w5 (by simp;omega)];congr 1;rw[<-Array.foldl_toList];have:=lS off v.cells.toList 0 cells (by simpa using hl);simp only[xy,xr]at this;rw[<-this];simp[Array.toList_zipIdx]
theorem nI{E:Om}{x:AV}{v:Value}(h:V E x v){n:Nat}(hl:cA (a7 x) n=true)(hn:(a7 x).all fc=true):v.cells.size=n:=by have:=(h.parts hn).1;rw[aV _ _ hl]at this;simpa using this.symm
theorem jk{E:Om}(fs:List (Nat×Nat))(sz:Nat->Option Nat):∀(ps:List (Nat×AV))(qs:List (Nat×Value))(cs ds:List AV)(vs:List Value)(place:Nat->Option (Nat×Nat)),
  (∀i off t n,nth fs i=some (off,t)->sz t=some n->place i=some (off,n))->
  ps.map (·.1)=qs.map (·.1)->VL E (ps.map (·.2)) (qs.map (·.2))->VL E cs vs->nA fs sz cs ps=some ds->
  ∃ws,Instr.fill place vs.toArray qs=some ws/\VL E ds ws.toList
 |[],qs,cs,ds,vs,place,_,hq,_,hc,hf=>by
  cases qs with|cons _ _=>simp at hq|nil=>simp[nA]at hf;subst hf;exact⟨vs.toArray,rfl,by simpa using hc⟩
 |(i,x)::ps,[],cs,ds,vs,place,_,hq,_,_,_=>by simp at hq
 |(i,x)::ps,(i',v)::qs,cs,ds,vs,place,hp,hq,hv,hc,hf=>by
  simp only[wu,wY]at hq;obtain⟨rfl,hq⟩:=hq;simp only[wu]at hv;simp only[nA]at hf;split at hf
  ·rename_i off t hft;split at hf
   ·rename_i n hn;split at hf
    ·rename_i hl;simp only[vW]at hl;split at hf
     ·rename_i es hes;have hxv:=hv.head;have hpl:=hp _ _ _ _ hft hn;have hsz:=nI hxv hl.2 hl.1;have hsp:=hc.splice (hxv.parts hl.1) hes;obtain⟨s1,s2⟩:=cH _ _ _ _ hes;obtain⟨ws,h1,h2⟩:=jk fs sz ps qs es ds _ place hp hq hv.tail hsp hf;refine⟨ws,?_,h2⟩
      rw[lT hpl hsz (by
       have e1:=aV _ _ hl.2;simp only[xA,<-hc.1];omega)]
      simpa using h1
     ·simp at hf
    ·simp at hf
   ·simp at hf
  ·simp at hf
theorem kq{w:World}(hT:aG P C.tbl):∀(fields:List Field),(∀f∈fields,∃i,P.info? f.type=some i/\i.size≠0)->
  (fields.mapM fun f=>(do pure (f.offset,<-sizeOf f.type):Sem (Nat×Nat))).run P w=.ok (fields.map fun f=>(f.offset,P.cellsOf f.type)) w
 |[],_=>rfl
 |f::fs,h=>by obtain⟨i,hi,_⟩:=h f (by simp);rw[List.mapM_cons];simp only[w7,bF hi,vY,wy,kq hT fs (fun f hf=>h f (by simp[hf])),wu,Program.cellsOf,hi,wV,wN]
theorem sy(hT:aG P C.tbl){t:Nat}{ps:Array (Nat×Operand)}(hop:o.op=.build t ps):b4 P C o:=by
 refine b4.pure fun F s a E eff h he ho=>?_;simp only[ah,hop]at he;split at he
 ·rename_i fs sz by' z ty hr
  split at he
  ·rename_i cs hcs;simp only[Xs]at he;subst he;obtain⟨d,hd1,hd2⟩:=an hT hr rfl;cases d<;>simp[ar]at hd2;rename_i fields;obtain⟨hf1,hf2⟩:=hd2;obtain⟨i,zv,i1,i2,i3,i4,i5⟩:=(hT _ _ hr).info;have i5':List.map aW zv.cells.toList=z:=i5;have hz:VL E z zv.cells.toList:=by rw[<-i5'];exact kl E _
   have hfi:∀f∈fields.toList,∃i,P.info? f.type=some i/\i.size≠0:=by
    intro f hf;obtain⟨j,hj,hje⟩:=xQ.1 (xU.1 hf);have:=hf2 j hj;rw[hje]at this;split at this
    ·rename_i i' hi';exact⟨i',hi',fun h0=>by simp[h0]at this⟩
    ·simp at this
   have hpl:∀w,(fields.mapM fun f=>(do pure (f.offset,<-sizeOf f.type):Sem (Nat×Nat))).run P w=.ok (fields.toList.map fun f=>(f.offset,P.cellsOf f.type)).toArray w:=by intro w;rw[<-xi (xs:=fields),yh];simp only[Sem.run_map,kq hT fields.toList hfi,vY]
   obtain⟨ws,h1,h2⟩:=jk (E:=E) fs (fun t=>(ak C.tbl t).map (·.size)) (ps.toList.map fun(i,x)=>(i,opd s.T x)) (ps.toList.map fun(i,x)=>(i,a.eval x)) z cs zv.cells.toList
    (fun i=>((fields.toList.map fun f=>(f.offset,P.cellsOf f.type)).toArray)[i]?)
    (by
     intro j off t' n hn1 hn2;rw[fT,<-hf1]at hn1;simp only[wx,we]at hn1 hn2;obtain⟨f,hf,e⟩:=hn1;obtain⟨r',hr',e'⟩:=hn2;simp at e;obtain⟨i',z',j1,j2,j3,j4,j5⟩:=(hT _ _ hr').info;simp only[wU,wx,hf,wV,Program.cellsOf,e.1,e.2,j1,wN,j2,e'])
    (by simp[yM])
    (by
     refine⟨by simp,fun j c v hc hv=>?_⟩;simp only[List.map_map,wx,we]at hc hv;obtain⟨x,hx,e⟩:=hc;obtain⟨x',hx',e'⟩:=hv;rw[hx]at hx';simp at hx';subst hx';simp at e e';rw[<-e,<-e'];exact aK h x.2)
    hz hcs
   refine⟨rfl,.agg ws,?_,?_⟩
   ·simp only[execOp,hop,Instr.build,w7,cG i1 i4,vY,aj hd1,hpl,wy];have e:ps.map (fun x=>(x.1,a.eval x.2))=(ps.toList.map fun(i,x)=>(i,a.eval x)).toArray:=by apply wQ;simp
    have e2:(ps.map fun x=>match x with|(i,x)=>(i,a.eval x)).toList=ps.toList.map fun(i,x)=>(i,a.eval x):=by simp
    simp only[xi]at h1;rw[e2,h1];simp
   ·have:=V.of_agg h2;show V E (.agg cs) _;simpa using this
  ·simp at he
 ·simp at he
end
end Go.AL
end
noncomputable section
namespace Go.AL
variable [Tabs]
def Rd(a b:AV):Prop:=∀E v,V E a v->V E b v
theorem Rd.refl(a:AV):Rd a a:=fun _ _ h=>h
theorem Rd.lst(I:Ty)(xs:List (den I))(o:Option Nat):Rd (.lst I xs o) (.lst I xs none):=by
 intro E v hv
 cases hv with|lstNil _ _ _=>exact .lstNil I none (fun id hid=>by simp at hid)|lstVoid _ a=>exact .lstVoid I a|lst _ _ _ b off cap vals h1 h2 h3 h4 h5=>exact .lst I xs none b off cap vals h1 h2 (fun id hid=>by simp at hid) h4 h5
theorem Rd.nils(I:Ty):Rd .nils (.lst I [] none):=by intro E v hv;cases hv;exact .lstNil I none (fun id hid=>by simp at hid)
def RdL(cs ds:List AV):Prop:=cs.length=ds.length/\∀(j:Nat)(c d:AV),cs[j]?=some c->ds[j]?=some d->Rd c d
theorem RdL.nil:RdL [] []:=⟨rfl,fun _ _ _ h=>by simp at h⟩
theorem RdL.cons{a b:AV}{cs ds:List AV}(h:Rd a b)(k:RdL cs ds):RdL (a::cs) (b::ds):=by
 refine⟨by simp[k.1],fun j c d hc hd=>?_⟩
 cases j with|zero=>simp at hc hd;subst hc hd;exact h|succ j=>exact k.2 j c d (by simpa using hc) (by simpa using hd)
theorem VL.rd{E:Om}{cs ds:List AV}{vs:List Value}(h:VL E cs vs)(r:RdL cs ds):VL E ds vs:=by
 refine⟨by rw[<-r.1,h.1],fun j d v hd hv=>?_⟩
 have hj:j<cs.length:=by
  rw[r.1];rcases w4 j ds.length with k|k
  ·exact k
  ·rw[vX k]at hd;cases hd
 have hc:cs[j]?=some cs[j]:=vV hj;exact r.2 j _ d hc hd _ _ (h.2 j _ v hc hv)
theorem aB{k:IntKind}{a:AV}{n:Int}(h:asInt k a=some n):Rd a (.int k n):=by cases a<;>simp[asInt]at h;obtain⟨rfl,rfl⟩:=h;exact Rd.refl _
theorem lU{a:AV}{n:Bool}(h:jK a=some n):Rd a (.bool n):=by cases a<;>simp[jK]at h;subst h;exact Rd.refl _
theorem aN{a:AV}{n:Str}(h:bB a=some n):Rd a (.str n):=by cases a<;>simp[bB]at h;subst h;exact Rd.refl _
theorem aT{I:Ty}{a:AV}{xs:List (den I)}(h:bP I a=some xs):Rd a (.lst I xs none):=by
 cases a<;>simp[bP]at h
 ·rename_i M ys o;obtain⟨e,rfl⟩:=eL h;subst e;exact Rd.lst M ys o
 ·subst h;exact Rd.nils I
theorem kr{n m:SN}{x:Option (SD n)}{y:Option (SD m)}(h:je n m x=some y):∃e:n=m,e ▸ x=y:=by
 unfold je at h;split at h
 ·rename_i e;simp at h;exact⟨e,h⟩
 ·simp at h
theorem ub{n:SN}{a:AV}{x:Option (SD n)}(h:uX n a=some x):Rd a (.pt n x):=by
 unfold uX at h;split at h
 ·obtain⟨e,h⟩:=kr h;subst e;subst h;exact Rd.refl _
 ·simp at h;subst h;intro E v hv;cases hv;exact .ptNone n
 ·obtain⟨e,h⟩:=kr h;subst e;subst h;exact fun E v hv=>.ptSome _ _ v hv
 ·cases h
theorem RdL.app{as bs cs ds:List AV}(h:RdL as bs)(k:RdL cs ds):RdL (as++cs) (bs++ds):=by
 refine⟨by simp[h.1,k.1],fun j c d hc hd=>?_⟩;by_cases hj:j<as.length
 ·rw[w6 hj]at hc;rw[w6 (by rw[<-h.1];exact hj)]at hd;exact h.2 j c d hc hd
 ·rw[w8 (by omega)]at hc;rw[w8 (by rw[<-h.1];omega),<-h.1]at hd;exact k.2 _ c d hc hd
theorem dB{cs:List AV}{x:Shape}(h:dK cs=some x):RdL cs (bC x):=by
 unfold dK at h;split at h
 ·split at h
  ·rename_i h0 h1 h2 h3 h4;simp only[Xs]at h;subst h;exact(.cons (aB h0) (.cons (aN h1) (.cons (aN h2) (.cons (aT h3) (.cons (aT h4) .nil)))))
  ·cases h
 ·cases h
theorem nJ{cs:List AV}{x:Item}(h:jY cs=some x):RdL cs (dE x):=by
 unfold jY at h;split at h
 ·split at h
  ·rename_i h0 h1 h2;simp only[Xs]at h;subst h;exact(.cons (aB h0) (.cons (aN h1) (RdL.app (dB h2) .nil)))
  ·cases h
 ·cases h
theorem lv{cs:List AV}{x:Change}(h:hD cs=some x):RdL cs (cr x):=by
 unfold hD at h;split at h
 ·split at h
  ·rename_i h0 h1;simp only[Xs]at h;subst h;exact(.cons (aB h0) (.cons (aN h1) .nil))
  ·cases h
 ·cases h
theorem mL{cs:List AV}{x:Tokn}(h:iL cs=some x):RdL cs (cK x):=by
 unfold iL at h;split at h
 ·split at h
  ·rename_i h0 h1 h2;simp only[Xs]at h;subst h;exact(.cons (aB h0) (.cons (aN h1) (.cons (aB h2) .nil)))
  ·cases h
 ·cases h
theorem mM{cs:List AV}{x:Flt}(h:iM cs=some x):RdL cs (cM x):=by
 unfold iM at h;split at h
 ·split at h
  ·rename_i h0 h1;simp only[Xs]at h;subst h;exact(.cons (aB h0) (.cons (aB h1) .nil))
  ·cases h
 ·cases h
theorem jl{cs:List AV}{x:Trm}(h:ik cs=some x):RdL cs (cN x):=by
 unfold ik at h;split at h
 ·split at h
  ·rename_i h0 h1 h2 h3 h4 h5 h6 h7 h8;simp only[Xs]at h;subst h;exact(.cons (aB h0) (.cons (aN h1) (.cons (aN h2) (.cons (aB h3) (.cons (aT h4) (.cons (aT h5) (.cons (aT h6) (.cons (aT h7) (.cons (aB h8) .nil)))))))))
  ·cases h
 ·cases h
theorem dW{cs:List AV}{x:Vers}(h:de cs=some x):RdL cs (bn x):=by
 unfold de at h;split at h
 ·split at h
  ·rename_i h0 h1 h2 h3;simp only[Xs]at h;subst h;exact(.cons (aB h0) (.cons (aB h1) (.cons (aB h2) (.cons (aN h3) .nil))))
  ·cases h
 ·cases h
theorem mN{cs:List AV}{x:Bnd}(h:iN cs=some x):RdL cs (cO x):=by
 unfold iN at h;split at h
 ·split at h
  ·rename_i h0 h1;simp only[Xs]at h;subst h;exact(.cons (aB h0) (RdL.app (dW h1) .nil))
  ·cases h
 ·cases h
theorem p9{cs:List AV}{x:Impt}(h:ml cs=some x):RdL cs (eC x):=by
 unfold ml at h;split at h
 ·split at h
  ·rename_i h0 h1 h5 h6;simp only[Xs]at h;subst h;exact(.cons (aN h0) (RdL.app (dW h1) (.cons (aT h5) (.cons (aB h6) .nil))))
  ·cases h
 ·cases h
theorem nK{cs:List AV}{x:Dcl}(h:jZ cs=some x):RdL cs (dF x):=by
 unfold jZ at h;split at h
 ·split at h
  ·rename_i h0 h1 h2 h7 h16;simp only[Xs]at h;subst h;exact(.cons (aB h0) (.cons (aN h1) (RdL.app (dB h2) (RdL.app (jl h7) (.cons (aB h16) .nil)))))
  ·cases h
 ·cases h
theorem nL{cs:List AV}{x:Modu}(h:k6 cs=some x):RdL cs (dG x):=by
 unfold k6 at h;split at h
 ·split at h
  ·rename_i h0 h1 h2 h3 h4;simp only[Xs]at h;subst h;exact(.cons (aN h0) (.cons (aT h1) (.cons (aT h2) (.cons (aT h3) (.cons (aB h4) .nil)))))
  ·cases h
 ·cases h
theorem nM{cs:List AV}{x:Bndg}(h:k7 cs=some x):RdL cs (dH x):=by
 unfold k7 at h;split at h
 ·split at h
  ·rename_i h0 h1 h2;simp only[Xs]at h;subst h;exact(.cons (aN h0) (.cons (aN h1) (RdL.app (dB h2) .nil)))
  ·cases h
 ·cases h
theorem pa{cs:List AV}{x:Envt}(h:mm cs=some x):RdL cs (eD x):=by
 unfold mm at h;split at h
 ·split at h
  ·rename_i h0 h1 h2 h3;simp only[Xs]at h;subst h;exact(.cons (aN h0) (.cons (aT h1) (.cons (aT h2) (.cons (aT h3) .nil))))
  ·cases h
 ·cases h
theorem pb{cs:List AV}{x:Depd}(h:mn cs=some x):RdL cs (eE x):=by
 unfold mn at h;split at h
 ·split at h
  ·rename_i h0 h1;simp only[Xs]at h;subst h;exact(.cons (aN h0) (.cons (aT h1) .nil))
  ·cases h
 ·cases h
theorem ku{cs:List AV}{x:Vlu}(h:jL cs=some x):RdL cs (dQ x):=by
 unfold jL at h;split at h
 ·split at h
  ·rename_i h0 h1 h2 h3 h4 h5;simp only[Xs]at h;subst h;exact(.cons (aB h0) (.cons (aB h1) (.cons (aN h2) (.cons (aN h3) (.cons (aT h4) (.cons (aT h5) .nil))))))
  ·cases h
 ·cases h
theorem nN{cs:List AV}{x:Cel}(h:k8 cs=some x):RdL cs (dI x):=by
 unfold k8 at h;split at h
 ·split at h
  ·rename_i h0 h1;simp only[Xs]at h;subst h;exact(.cons (aN h0) (RdL.app (ku h1) .nil))
  ·cases h
 ·cases h
theorem qY{cs:List AV}{x:Opn}(h:oO cs=some x):RdL cs (gx x):=by
 unfold oO at h;split at h
 ·split at h
  ·rename_i h0 h1 h2 h3 h4 h5;simp only[Xs]at h;subst h;exact(.cons (aB h0) (.cons (aB h1) (.cons (aN h2) (.cons (aT h3) (.cons (aT h4) (.cons (aB h5) .nil))))))
  ·cases h
 ·cases h
theorem mO{cs:List AV}{x:Chnk}(h:iO cs=some x):RdL cs (cP x):=by
 unfold iO at h;split at h
 ·split at h
  ·rename_i h0 h1;simp only[Xs]at h;subst h;exact(.cons (aB h0) (.cons (aT h1) .nil))
  ·cases h
 ·cases h
theorem pc{cs:List AV}{x:Usg}(h:mo cs=some x):RdL cs (eF x):=by
 unfold mo at h;split at h
 ·split at h
  ·rename_i h0 h1;simp only[Xs]at h;subst h;exact(.cons (aN h0) (.cons (aN h1) .nil))
  ·cases h
 ·cases h
theorem qZ{cs:List AV}{x:Nam}(h:oP cs=some x):RdL cs (dA x):=by
 unfold oP at h;split at h
 ·split at h
  ·rename_i h0 h1;simp only[Xs]at h;subst h;exact(.cons (aN h0) (.cons (aN h1) .nil))
  ·cases h
 ·cases h
theorem pd{cs:List AV}{x:Stt}(h:mq cs=some x):RdL cs (eG x):=by
 unfold mq at h;split at h
 ·split at h
  ·rename_i h0 h1;simp only[Xs]at h;subst h;exact(.cons (aB h0) (.cons (aB h1) .nil))
  ·cases h
 ·cases h
theorem pe{cs:List AV}{x:Par}(h:mr cs=some x):RdL cs (eH x):=by
 unfold mr at h;split at h
 ·split at h
  ·rename_i h0 h1 h2 h3;simp only[Xs]at h;subst h;exact(.cons (aT h0) (.cons (aB h1) (.cons (aB h2) (.cons (aB h3) .nil))))
  ·cases h
 ·cases h
theorem nO{cs:List AV}{x:Rstt}(h:k9 cs=some x):RdL cs (dJ x):=by
 unfold k9 at h;split at h
 ·split at h
  ·rename_i h0 h1 h2;simp only[Xs]at h;subst h;exact(.cons (lU h0) (.cons (aB h1) (.cons (aB h2) .nil)))
  ·cases h
 ·cases h
theorem fr(I:Ty){cs:List AV}{x:den I}(h:lu I cs=some x):RdL cs (cells I x):=by
 unfold lu at h;split at h
 ·exact .cons (aB h) .nil
 ·exact .cons (lU h) .nil
 ·exact .cons (aN h) .nil
 ·exact .cons (aT h) .nil
 ·exact .cons (ub h) .nil
 ·exact dB h
 ·exact nJ h
 ·exact lv h
 ·exact mL h
 ·exact mM h
 ·exact jl h
 ·exact dW h
 ·exact mN h
 ·exact p9 h
 ·exact nK h
 ·exact nL h
 ·exact nM h
 ·exact pa h
 ·exact pb h
 ·exact ku h
 ·exact nN h
 ·exact qY h
 ·exact mO h
 ·exact pc h
 ·exact qZ h
 ·exact pd h
 ·exact pe h
 ·exact nO h
 ·simp at h
theorem RdL.refl:∀cs,RdL cs cs
 |[]=>.nil
 |c::cs=>.cons (Rd.refl c) (RdL.refl cs)
theorem fZ{n m:SN}{x:SD n}{y:SD m}(h:fN n m x=some y):∃e:n=m,e ▸ x=y:=by
 unfold fN at h;split at h
 ·rename_i e;simp at h;exact⟨e,h⟩
 ·simp at h
theorem ca{I:Ty}(hs:tP I=false){a:AV}{x:den I}(h:lu I [a]=some x):a7 a=[a]:=by
 cases I with
 |st n=>cases hs
 |int k=>cases a<;>first|rfl|cases h
 |bool=>cases a<;>first|rfl|cases h
 |str=>cases a<;>first|rfl|cases h
 |lst t=>cases a<;>first|rfl|cases h
 |pt n=>cases a<;>first|rfl|cases h
theorem mP(I:Ty){a:AV}{x:den I}(h:arg I a=some x):RdL (a7 a) (cells I x):=by
 cases I with
 |st m=>
  cases a with
  |st n y=>obtain⟨e,h⟩:=fZ h;subst e;subst h;exact RdL.refl _
  |agg cs=>exact fr (.st m) h
  |_=>cases h
 |int k=>rw[ca rfl (I:=.int k) (x:=x) h];exact fr (.int k) h
 |bool=>rw[ca rfl (I:=.bool) (x:=x) h];exact fr .bool h
 |str=>rw[ca rfl (I:=.str) (x:=x) h];exact fr .str h
 |lst t=>rw[ca rfl (I:=.lst t) (x:=x) h];exact fr (.lst t) h
 |pt n=>rw[ca rfl (I:=.pt n) (x:=x) h];exact fr (.pt n) h
theorem V.rd{E:Om}{a b:AV}{v:Value}(h:V E a v)(r:Rd a b):V E b v:=r _ _ h
theorem sA{E:Om}{I:Ty}{a:AV}{x:den I}{v:Value}(h:V E a v)(ha:arg I a=some x):V E (inj I x) v:=by
 have hr:=mP I ha
 cases I with
 |st m=>
  cases a with
  |st n y=>obtain⟨e,ha⟩:=fZ ha;subst e;subst ha;exact h
  |agg cs=>obtain⟨vs,rfl,hv⟩:=h.agg_inv;exact .st m x _ (V.of_agg (hv.rd hr))
  |_=>cases ha
 |int k=>rw[ca rfl (I:=.int k) (x:=x) ha]at hr;exact h.rd (hr.2 0 a _ rfl rfl)
 |bool=>rw[ca rfl (I:=.bool) (x:=x) ha]at hr;exact h.rd (hr.2 0 a _ rfl rfl)
 |str=>rw[ca rfl (I:=.str) (x:=x) ha]at hr;exact h.rd (hr.2 0 a _ rfl rfl)
 |lst t=>rw[ca rfl (I:=.lst t) (x:=x) ha]at hr;exact h.rd (hr.2 0 a _ rfl rfl)
 |pt n=>rw[ca rfl (I:=.pt n) (x:=x) ha]at hr;exact h.rd (hr.2 0 a _ rfl rfl)
section
variable {P:Program} {C:Cfg} {o:Oper}
theorem kx{E:Om}{I:Ty}{xs:List (den I)}{o:Option Nat}{b cap:Nat}{vs:List Value}{ws:Array Value}{ty:Nat}{fz:Nat×Nat}
 (hb:E.w.heap[b]?=some (.cells ws ty fz))(hp:ws.toList.take (xs.length *a8 I)=vs)(hv:VL E (aH I xs) vs)
 (hc1:xs.length<=cap)(hc2:cap<=aS)(hpub:∀i,i<xs.length *a8 I->E.pub b i)
 (ht:di E o xs.length (.slice (some ⟨b,0,none⟩) xs.length cap)):V E (.lst I xs o) (.slice (some ⟨b,0,none⟩) xs.length cap):=by
 have key:∀(i:Nat)(x:den I),xs[i]?=some x->∀(j:Nat)(c:AV),(cells I x)[j]?=some c->
   i *a8 I+j<xs.length *a8 I/\∃v,vs[i *a8 I+j]?=some v/\ws[i *a8 I+j]?=some v/\V E c v:=by
  intro i x hx j c hc;have hf:=dT I xs i x j c hx hc
  have hlt:i *a8 I+j<(aH I xs).length:=by
   rcases w4 (i *a8 I+j) (aH I xs).length with k|k
   ·exact k
   ·rw[vX k]at hf;cases hf
  have hlt':i *a8 I+j<vs.length:=by rw[<-hv.1];exact hlt
  rw[aQ]at hlt;obtain⟨v,hvj⟩:∃v,vs[i *a8 I+j]?=some v:=⟨_,vV hlt'⟩;refine⟨hlt,v,hvj,?_,hv.2 _ c _ hf hvj⟩;rw[<-hp,wv,wh hlt,wg]at hvj;exact hvj
 refine .lst I xs o b 0 cap (fun i j=>(vs[i *a8 I+j]?).getD undef) hc1 hc2 ht (fun i x hx j c hc=>?_) (fun i x hx j c hc=>?_)
 ·obtain⟨h1,v,h2,h3,h4⟩:=key i x hx j c hc;simp only[xf];refine⟨hpub _ h1,?_⟩;rw[al hb,h3,h2];rfl
 ·obtain⟨h1,v,h2,h3,h4⟩:=key i x hx j c hc;simp only[h2];exact h4
theorem V.row_cells{E:Om}{I:Ty}{xs:List (den I)}{b off:Nat}{vals:Nat->Nat->Value}
 (h4:∀(i:Nat)(x:den I),xs[i]?=some x->∀(j:Nat)(c:AV),(cells I x)[j]?=some c->
    E.pub b (off+(i *a8 I+j))/\E.w.cell? ⟨b,off+(i *a8 I+j),none⟩=some (vals i j))
 (h5:∀(i:Nat)(x:den I),xs[i]?=some x->∀(j:Nat)(c:AV),(cells I x)[j]?=some c->V E c (vals i j)) :
  ∃us:List Value,us.length=xs.length *a8 I/\VL E (aH I xs) us/\∀j u,us[j]?=some u->E.w.cell? ⟨b,off+j,none⟩=some u:=by
 induction xs generalizing off vals with
 |nil=>exact⟨[],by simp,VL.nil,fun j u h=>by simp at h⟩
 |cons x xs ih=>
  obtain⟨us,u1,u2,u3⟩:=ih (off:=off+a8 I) (vals:=fun i=>vals (i+1))
   (fun i y hy j c hc=>by
    have:=h4 (i+1) y (by simpa using hy) j c hc;rw[show off+a8 I+(i *a8 I+j)=off+((i+1) *a8 I+j)from by rw[wD];omega];exact this)
   (fun i y hy j c hc=>h5 (i+1) y (by simpa using hy) j c hc)
  have hx:=V.elem (E:=E) (xs:=x::xs) (b:=b) (off:=off) (vals:=vals) 0 (by simp) h4 h5 (dfl I);refine⟨(List.ofFn fun j:Fin (a8 I)=>vals 0 j)++us,by simp[u1,wD];omega,?_,fun j u hj=>?_⟩
  ·refine VL.append ⟨by simp[aA],fun j c v hc hv=>?_⟩ u2;rw[List.getElem?_ofFn]at hv;split at hv
   ·simp at hv;subst hv;exact h5 0 x rfl j c hc
   ·simp at hv
  ·by_cases hlt:j<a8 I
   ·rw[w6 (by simpa using hlt),List.getElem?_ofFn]at hj;rw[dif_pos hlt]at hj;simp at hj;subst hj;have hc:(cells I x)[j]?=some ((cells I x)[j]'(by rw[aA];exact hlt)):=vV _;have:=(h4 0 x rfl j _ hc).2;simpa using this
   ·rw[w8 (by simp;omega)]at hj;simp only[List.length_ofFn]at hj;have:=u3 _ u hj;rw[show off+a8 I+(j-a8 I)=off+j from by omega]at this;exact this
theorem ix{E:Om}{I:Ty}:∀(ps:List (Nat×AV))(qs:List (Nat×Value))(i:Nat)(l:List (den I))(cur:Array Value),
  ps.map (·.1)=qs.map (·.1)->VL E (ps.map (·.2)) (qs.map (·.2))->kb I i ps=some l->(∀p∈ps,(a7 p.2).all fc=true)->
  (i+l.length) *a8 I<=cur.size->
  ∃us:List Value,VL E (aH I l) us/\Instr.fill (fun i=>some (i *a8 I,a8 I)) cur qs=some (cur.toList.take (i *a8 I)++us++cur.toList.drop ((i+l.length) *a8 I)).toArray
 |[],qs,i,l,cur,hq,_,hf,_,_=>by
  cases qs with|cons _ _=>simp at hq|nil=>simp[kb]at hf;subst hf;exact⟨[],VL.nil,by simp[Instr.fill]⟩
 |(j,x)::ps,[],i,l,cur,hq,_,_,_,_=>by simp at hq
 |(j,x)::ps,(j',v)::qs,i,l,cur,hq,hv,hf,hlf,hl=>by
  simp only[wu,wY]at hq;obtain⟨rfl,hq⟩:=hq;simp only[wu]at hv;simp only[kb]at hf;split at hf
  ·rename_i hji;simp at hji;subst hji;split at hf
   ·rename_i y l' hy hl';simp at hf;subst hf;have hxl:=hlf (j,x) (by simp);have hxv:=hv.head;have hp:=(hxv.parts hxl).rd (mP I hy);have hvs:v.cells.size=a8 I:=by have:=hp.1;rw[aA]at this;simpa using this.symm
    have hle:j *a8 I+v.cells.size<=cur.size:=by rw[hvs];simp only[wo]at hl;have:(j+1) *a8 I<=(j+(l'.length+1)) *a8 I:=wM _ (by omega);rw[wD]at this;omega
    rw[lT (place:=fun i=>some (i *a8 I,a8 I)) rfl hvs hle];have hsz:(cur.toList.take (j *a8 I)++v.cells.toList++cur.toList.drop (j *a8 I+v.cells.size)).toArray.size=cur.size:=by simp;omega
    obtain⟨us,u1,u2⟩:=ix ps qs (j+1) l' _ hq hv.tail hl' (fun p hp=>hlf p (by simp[hp])) (by
     rw[hsz];simp only[wo]at hl;rw[show j+1+l'.length=j+(l'.length+1)from by omega];exact hl)
    refine⟨v.cells.toList++us,?_,?_⟩
    ·have:aH I (y::l')=cells I y++aH I l':=by simp[aH]
     rw[this];exact hp.append u1
    ·rw[u2];congr 1;apply wQ;have e1:(j+1) *a8 I=j *a8 I+a8 I:=by rw[wD];omega
     have t1:(cur.toList.take (j *a8 I)++v.cells.toList++cur.toList.drop (j *a8 I+v.cells.size)).take ((j+1) *a8 I)=cur.toList.take (j *a8 I)++v.cells.toList:=by rw[List.take_left' (by simp;omega)]
     have t2:(cur.toList.take (j *a8 I)++v.cells.toList++cur.toList.drop (j *a8 I+v.cells.size)).drop ((j+1+l'.length) *a8 I)=cur.toList.drop ((j+(l'.length+1)) *a8 I):=by
      rw[List.drop_append,List.drop_of_length_le (by
       simp;have:(j+1) *a8 I<=(j+1+l'.length) *a8 I:=wM _ (by omega);omega),wZ,List.drop_drop]
      congr 1;simp;have e2:(j+1+l'.length) *a8 I=j *a8 I+a8 I+l'.length *a8 I:=by rw[wD,wD];omega
      have e3:(j+(l'.length+1)) *a8 I=j *a8 I+(l'.length *a8 I+a8 I):=by rw[wD,wD];omega
      omega
     simp only[wo];rw[t1,t2];simp
   ·simp at hf
  ·simp at hf
theorem lx(hT:aG P C.tbl){t len:Nat}{ps:Array (Nat×Operand)}(hop:o.op=.buildSlice t len ps):b4 P C o:=by
 intro F s a E eff next Q h hd he ho hn
 simp only[ah,hop]at he;split at he
 ·rename_i d e sz by' z ty hdst hr
  split at he
  ·rename_i ti size by2 z2 I hre;split at he
   ·rename_i l hl hB;split at he
    ·rename_i hck;simp only[vW]at hck;obtain⟨⟨hlen,hbig⟩,hlf⟩:=hck;have hlen':=aV _ _ hlen;subst hlen';obtain⟨dd,hd1,hd2⟩:=an hT hr rfl;cases dd<;>simp[ar]at hd2;subst hd2;obtain⟨i,zz,i1,i2,i3,i4,i5⟩:=(hT _ _ hre).info;have hw:a8 I=size:=((hT _ _ hre).ty I rfl).1;have i2':i.size=a8 I:=by rw[hw];exact i2
     have hbig':l.length *size<=1000000:=by simpa using hbig
     have hzl:zz.cells.size=a8 I:=by
      have p1:=(hT _ _ hre).zlen;have:(List.map aW zz.cells.toList).length=size:=by rw[i5];exact p1
      rw[hw];simpa using this
     let cur:Array Value:=(Array.range (l.length *a8 I)).map fun k=>zz.cells[k%zz.cells.size]!
     have hcs:cur.size=l.length *a8 I:=by simp[cur]
     obtain⟨us,u1,u2⟩:=ix (E:=E) (ps.toList.map fun(i,x)=>(i,opd s.T x)) (ps.toList.map fun(i,x)=>(i,a.eval x)) 0 l cur
      (by simp[yM])
      (by
       refine⟨by simp,fun j c v hc hv=>?_⟩;simp only[List.map_map,wx,we]at hc hv;obtain⟨x,hx,e⟩:=hc;obtain⟨x',hx',e'⟩:=hv;rw[hx]at hx';simp at hx';subst hx';simp at e e';rw[<-e,<-e'];exact aK h x.2)
      hl
      (by
       intro p hp;exact wk.1 hlf p hp)
      (by rw[hcs];simp)
     have hul:us.length=l.length *a8 I:=by rw[<-u1.1,aQ]
     have hfin:(cur.toList.take (0 *a8 I)++us++cur.toList.drop ((0+l.length) *a8 I)).toArray=us.toArray:=by apply wQ;simp;rw[hcs];omega
     rw[hfin]at u2
     have hrun:(execOp a.eval o).run P E.w=.ok (.value (.slice (some ⟨E.w.heap.size,0,none⟩) l.length l.length)) (E.w.alloc (.cells us.toArray e)):=by
      have hps:(ps.map fun x=>match x with|(i,x)=>(i,a.eval x)).toList=ps.toList.map fun(i,x)=>(i,a.eval x):=by simp
      simp only[execOp,hop,Instr.buildSlice,w7,aj hd1,vY,bF i1,i2'];rw[w5 (by rw[hw];omega)];split
      ·rename_i h0;have hcur:((Array.range (l.length *a8 I)).map fun x=>(#[]:Array Value)[x%(#[]:Array Value).size]!)=cur:=by simp[cur,h0]
       simp only[w7,wy,vY];rw[hcur,hps,u2];simp[newRow]
      ·rename_i h0;simp only[w7,cG i1 i4,wy,vY];rw[hps];have u2':Instr.fill (fun i=>some (i *a8 I,a8 I)) ((Array.range (l.length *a8 I)).map fun x=>zz.cells[x%zz.cells.size]!) (ps.toList.map fun(i,x)=>(i,a.eval x))=some us.toArray:=u2;rw[u2'];simp[newRow]
     have hlm:l.length<=aS:=by have:l.length *1<=l.length *size:=xl _ (by have:=(hT _ _ hre).pos rfl;exact this);unfold aS;omega
     split at he;rotate_left
     ·simp only[Xs]at he;subst he
      have hh:=h.alloc (d:=d) (c:=.box E.w.heap.size 0 (aH I l).length) (obj:=.box (.row I l)) (x:=.cells us.toArray e) (p:=fun _=>False)
       (dst:=some d) (val:=.arr d l.length size) (v:=.slice (some ⟨E.w.heap.size,0,none⟩) l.length l.length)
       (Or.inl (h.dom d hB)) (fun b o hb=>hb.1)
       (fun hx=>by
        refine⟨E.w.heap.size,0,by simp[a7],fun j c' hc=>?_⟩
        have hj:j<us.length:=by
         rw[<-u1.1];rcases w4 j (aH I l).length with k|k
         ·exact k
         ·rw[show a7 (.row I l)=aH I l from rfl,vX k]at hc;cases hc
        have hcells:(E.w.alloc (.cells us.toArray e)).heap[E.w.heap.size]?=some (.cells us.toArray e (0,0)):=b6 _ _;refine⟨Or.inl h.frame.size,fun hp=>?_,cb hcells _,us[j],?_,(u1.2 j c' _ hc (by simp[hj])).ext hx⟩
        ·rcases hp with hp|⟨_,hp⟩
         ·have:=h.cell_lt hp;omega
         ·exact hp
        ·simp only[xf];rw[al hcells];simp[hj])
       (fun _ hf=>hf.elim)
       (fun hx=>.arr d l.length size E.w.heap.size (aH I l).length l.length _ (by simp) (by rw[aQ,hw];exact wj _) (wj _) hlm (.inl rfl))
       (fun d' hd'=>by simp at hd';subst hd';exact hd d hdst)
      refine ai hrun ?_;rw[hdst]at hn⊢;exact hn _ _ hh
     simp only[Xs]at he;subst he
     have hh:=h.alloc (d:=d) (c:=.tail l.length (some E.w.heap.size) l.length) (obj:=.tail I l.length) (x:=.cells us.toArray e) (p:=fun o=>o<l.length *a8 I)
      (dst:=some d) (val:=.lst I l (some d)) (v:=.slice (some ⟨E.w.heap.size,0,none⟩) l.length l.length)
      (Or.inl (h.dom d hB)) (fun b o hb=>by simpa[occ]using hb.symm)
      (fun hx=>by
       refine⟨some E.w.heap.size,l.length,by simp,wj _,?_,by simp,fun b hb=>?_⟩
       ·have:l.length *1<=l.length *size:=xl _ (by have:=(hT _ _ hre).pos rfl;exact this);unfold aS;omega
       ·simp at hb;subst hb;refine⟨fun _=>Or.inl h.frame.size,us.toArray,e,(0,0),b6 _ _,rfl,by simp[hul],fun o ho hp=>?_⟩;rcases hp with hp|⟨_,hp⟩
        ·have:=h.cell_lt hp;omega
        ·omega)
      (fun o ho=>by
       rw[al (b6 _ _)];exact⟨us[o]'(by omega),by simp[hul,ho]⟩)
      (fun hx=>by
       refine kx (vs:=us) (b6 _ _) (by rw[<-hul];simp) (u1.ext hx) (wj _) ?_ (fun i hi=>Or.inr ⟨rfl,hi⟩) ?_
       ·have:l.length *1<=l.length *size:=xl _ (by have:=(hT _ _ hre).pos rfl;exact this);unfold aS;omega
       ·intro id hid;simp at hid;subst hid;exact⟨l.length,some E.w.heap.size,l.length,by simp,wj _,fun _=>rfl⟩)
      (fun d' hd'=>by simp at hd';subst hd';exact hd d hdst)
     refine ai hrun ?_;rw[hdst]at hn⊢;exact hn _ _ hh
    ·simp at he
   ·simp at he
  ·simp at he
 ·simp at he
end
end Go.AL
end
