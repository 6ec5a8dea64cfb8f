/- The layer: Go code as conditions, and that they are sound. No condition. -/
import Derived.KernelRfl
import Derived.Laws.AppendOwn
import Derived.Laws.CopyRow
import Derived.Laws.StructEq
import Derived.Lib.FrozenHead
import Derived.Orders
set_option linter.all false
set_option maxRecDepth 100000
def N3:=@if_neg
def N4:=@Bool.and_eq_true
def N5:=@List.length_append
def N6:=@if_pos
def N7:=@List.length_cons
def N8:=@decide_eq_true_eq
def N9:=@List.getElem?_eq_getElem
def Na:=@List.length_nil
def Nb:=@List.getD_eq_getElem?_getD
def Nc:=@List.length_singleton
def Nd:=@List.getElem?_eq_none
def Nf:=@Nat.le_refl
def Ng:=@List.all_eq_true
def Nh:=@Go.Result.andThen_ok
def Ni:=@List.eq_nil_of_length_eq_zero
def Nj:=@List.map_cons
def Nk:=@List.nil_append
def Nl:=@List.append_assoc
def Nn:=@List.mem_cons_of_mem
def Np:=@Bool.not_eq_true'
def Nq:=@List.getElem?_append_left
def Nr:=@List.getElem?_append_right
def Ns:=@decide_eq_false_iff_not
def Nt:=@Nat.zero_le
def Nu:=@Int.toNat_natCast
def Nv:=@Nat.lt_or_ge
def Nw:=@List.mem_cons
def Nx:=@Nat.eq_of_beq_eq_true
def Ny:=@Go.run_underlying
def Nz:=@Array.getD_eq_getD_getElem?
def NA:=@Go.Sem.run_bind
def NB:=@Option.map_eq_some_iff
def NC:=@Bool.false_eq_true
def ND:=@if_false
def NF:=@List.mem_cons_self
def NG:=@Nat.le_trans
def NH:=@Array.getElem?_toList
def NI:=@List.all_cons
def NJ:=@List.drop_length
def NK:=@List.mem_singleton
def NL:=@Bool.false_ne_true
def NM:=@List.getElem?_map
def NN:=@Go.Sem.run_pure
def NO:=@Bool.not_eq_true
def NP:=@List.getElem?_take
def NQ:=@List.mem_of_getElem?
def NR:=@Bool.false_and
def NS:=@if_true
def NT:=@Nat.add_mul
def NU:=@List.length_drop
def NV:=@List.mem_append
def NW:=@Bool.or_eq_true
def NX:=@and_true
def NY:=@List.cons_append
def NZ:=@true_and
def O0:=@Go.Lib.cell_of_heap
def O1:=@Option.some.inj
def O2:=@List.length_pos_iff
def O3:=@Bool.true_and
def O4:=@List.take_length
def O5:=@List.mem_map
def O6:=@List.getElem?_drop
def O7:=@beq_iff_eq
def O8:=@Nat.mul_le_mul_right
def O9:=@List.flatMap_cons
def Oa:=@Bool.and_true
def Ob:=@Array.ext'
def Oc:=@List.length_map
def Od:=@Go.Value.slice.injEq
def Oe:=@Go.setRow_other
def Of:=@Go.Lib.byteCells_length
def Og:=@Bool.eq_false_iff
def Oh:=@List.length_eq_one_iff
def Oi:=@List.getElem?_toArray
def Oj:=@Array.getElem?_modify
def Ol:=@Option.getD_some
def On:=@decide_eq_decide
def Oo:=@List.exists_cons_of_ne_nil
def Oq:=@List.getLastD_eq_getLast?
def Ot:=@Array.getElem?_eq_some_iff
def Ou:=@List.contains_eq_mem
def Ov:=@Bool.and_false
def Ow:=@Nat.sub_add_cancel
def Ox:=@List.map_append
def Oy:=@Bool.not_true
def Oz:=@List.sum_cons
def OA:=@decide_false
def OB:=@Prod.ext
def OC:=@Option.map_some
def OD:=@List.append_nil
def OE:=@Int.le_refl
def OF:=@List.mem_flatMap
def OG:=@eq_self
def OH:=@congrArg
def OI:=@List.drop_eq_nil_of_le
def OJ:=@List.take_of_length_le
def OK:=@Nat.mul_le_mul_left
def OL:=@List.getD_cons_succ
def OM:=@List.takeWhile_cons
def ON:=@List.mem_filter
def OO:=@Nat.not_lt_zero
def OP:=@List.length_take
def OQ:=@Nat.zero_add
def OR:=@Nat.add_assoc
def OS:=@List.getLast?_eq_some_getLast
def OT:=@List.length_eq_zero_iff
def OU:=@List.getElem?_cons_zero
def OV:=@List.dropLast_concat_getLast
def OW:=@List.all_append
def OX:=@Go.Addr.mk.injEq
def OY:=@decide_true
def OZ:=@List.getElem_mem
def P0:=@List.drop_eq_getElem_cons
def P1:=@Array.getElem?_eq_getElem
def P2:=@Option.isNone_iff_eq_none
def P3:=@ite_false
def P4:=@List.mem_iff_getElem
def P5:=@Nat.add_zero
def P6:=@List.map_nil
def P7:=@List.size_toArray
def P8:=@Array.toArray_toList
def P9:=@Array.replicate_succ
def Pa:=@Array.replicate_zero
def Pb:=@Array.length_toList
def Pe:=@List.append_toArray
def Pg:=@beq_eq_false_iff_ne
def Ph:=@List.not_mem_nil
def Pj:=@List.take_append_of_le_length
def Pk:=@Classical.em
def Pl:=@Nat.lt_of_lt_of_le
def Pm:=@Bool.not_not
def Pn:=@ite_true
def Po:=@Array.mem_iff_getElem
def Pp:=@Bool.and_eq_false_iff
def Pq:=@List.push_toArray
def Pr:=@List.drop_drop
def Ps:=@Array.mem_toList_iff
def Pt:=@Bool.or_eq_false_iff
def Pu:=@List.mem_range
def Pv:=@Nat.mul_comm
def Pw:=@beq_self_eq_true
def Px:=@List.getLast?_eq_getElem?
def Py:=@List.map_congr_left
def Pz:=@List.take_succ_cons
def PA:=@List.cons.injEq
def PB:=@List.range_succ
def PC:=@Nat.eq_zero_or_pos
def PD:=@Nat.one_mul
def PE:=@Nat.add_sub_cancel_left
def PG:=@List.getElem?_cons_succ
def PH:=@List.set_eq_take_append_cons_drop
def PI:=@not_true_eq_false
def PJ:=@Go.size_zeroCells
def PK:=@Go.growslice_fits
def PL:=@Nat.sub_zero
def PM:=@Bool.not_false
def PN:=@Bool.or_true
def PO:=@Bool.not_eq_false
def PQ:=@List.takeWhile_append_dropWhile
def PR:=@Nat.blt_eq
def PT:=@List.range'_succ
def PU:=@List.getElem?_append
def PV:=@Nat.div_lt_of_lt_mul
def PW:=@List.dropLast_subset
def PX:=@Option.map_none
def PY:=@List.foldl_cons
def PZ:=@List.sum_append
def Q0:=@Go.run_firstCells_some
def Q1:=@List.map_eq_flatMap
def Q2:=@List.filterMap_cons
def Q3:=@List.mem_map_of_mem
def Q4:=@List.flatMap_append
def Q5:=@List.map_map
def Q6:=@Go.wp_mono
def Q7:=@Nat.ble_eq
def Q8:=@Go.run_storeCells_atF
def Q9:=@Go.run_append_nil
def Qa:=@List.pairwise_cons
def Qb:=@Go.Lib.frozen_of_heap
def Qc:=@Bool.not_eq_false'
def Qd:=@List.mapM_toArray
def Qe:=@Function.comp_def
def Qf:=@List.ext_getElem?
def Qg:=@Nat.mul_one
def Qh:=@Array.all_eq_true
def Qi:=@List.nodup_append
def Qj:=@not_or
def Qk:=@Nat.sub_self
def Ql:=@List.all_nil
def Qm:=@Int.le_of_lt
def Qn:=@and_self
theorem Xr{p:Prop}(h:p:=by repeat (first|exact trivial|refine⟨by first|rfl|trivial,?_⟩)):p:=h
theorem Xo{p:Prop}[Decidable p](h:decide p=true):p:=of_decide_eq_true h
theorem Xd{p:Prop}[Decidable p](h:p):decide p=true:=decide_eq_true h
theorem Xt{P:Go.Program}{k:Nat}{f g:Go.Func}(h:P.funcs[k]?=some f)(e:f=g:=by kernel_rfl):P.funcs[k]?=some g:=h.trans (OH some e)
theorem Xs{α:Type _}(a b:α):(some a=some b)=(a=b):=Option.some.injEq a b
theorem Xf{p:Prop}[Decidable p](h:¬p):decide p=false:=decide_eq_false h
section
namespace Go.AL
abbrev Str:=List UInt8
structure Shape where
 kind:Int
 pkg:Str
 name:Str
 names:List Str
 parts:List Shape
instance:Inhabited Shape:=⟨⟨0,[],[],[],[]⟩⟩
structure Item where
 kind:Int
 name:Str
 shape:Shape
instance:Inhabited Item:=⟨⟨0,[],default⟩⟩
structure Change where
 kind:Int
 name:Str
instance:Inhabited Change:=⟨⟨0,[]⟩⟩
structure Tokn where
 kind:Int
 text:Str
 pos:Int
instance:Inhabited Tokn:=⟨⟨0,[],0⟩⟩
structure Flt where
 err:Int
 pos:Int
instance:Inhabited Flt:=⟨⟨0,0⟩⟩
structure Trm where
 kind:Int
 pkg:Str
 name:Str
 n:Int
 names:List Str
 vars:List Str
 shapes:List Shape
 parts:List Trm
 pos:Int
instance:Inhabited Trm:=⟨⟨0,[],[],0,[],[],[],[],0⟩⟩
structure Vers where
 major:Int
 minor:Int
 patch:Int
 pre:Str
instance:Inhabited Vers:=⟨⟨0,0,0,[]⟩⟩
structure Bnd where
 op:Int
 v:Vers
instance:Inhabited Bnd:=⟨⟨0,default⟩⟩
structure Impt where
 name:Str
 pin:Vers
 range:List Bnd
 pos:Int
instance:Inhabited Impt:=⟨⟨[],default,[],0⟩⟩
structure Dcl where
 kind:Int
 name:Str
 shape:Shape
 term:Trm
 pos:Int
instance:Inhabited Dcl:=⟨⟨0,[],default,default,0⟩⟩
structure Modu where
 name:Str
 imports:List Impt
 decls:List Dcl
 exports:List Str
 pos:Int
instance:Inhabited Modu:=⟨⟨[],[],[],[],0⟩⟩
structure Bndg where
 pkg:Str
 name:Str
 shape:Shape
instance:Inhabited Bndg:=⟨⟨[],[],default⟩⟩
structure Envt where
 self:Str
 types:List Bndg
 values:List Bndg
 own:List Bndg
instance:Inhabited Envt:=⟨⟨[],[],[],[]⟩⟩
structure Depd where
 name:Str
 items:List Item
instance:Inhabited Depd:=⟨⟨[],[]⟩⟩
structure Vlu where
 kind:Int
 n:Int
 pkg:Str
 text:Str
 names:List Str
 parts:List Vlu
instance:Inhabited Vlu:=⟨⟨0,0,[],[],[],[]⟩⟩
structure Cel where
 name:Str
 value:Vlu
instance:Inhabited Cel:=⟨⟨[],default⟩⟩
structure Opn where
 kind:Int
 n:Int
 name:Str
 names:List Str
 tos:List Int
 pos:Int
instance:Inhabited Opn:=⟨⟨0,0,[],[],[],0⟩⟩
structure Chnk where
 args:Int
 ops:List Opn
instance:Inhabited Chnk:=⟨⟨0,[]⟩⟩
structure Usg where
 pkg:Str
 name:Str
instance:Inhabited Usg:=⟨⟨[],[]⟩⟩
structure Nam where
 pkg:Str
 name:Str
instance:Inhabited Nam:=⟨⟨[],[]⟩⟩
structure Stt where
 things:Int
 names:Int
instance:Inhabited Stt:=⟨⟨0,0⟩⟩
structure Par where
 toks:List Tokn
 pos:Int
 err:Int
 fat:Int
instance:Inhabited Par:=⟨⟨[],0,0,0⟩⟩
structure Rstt where
 known:Bool
 things:Int
 names:Int
instance:Inhabited Rstt:=⟨⟨false,0,0⟩⟩
inductive SN where
 |shape|item|change|token|fault|term|version|bound|imp|decl|modu|bind|env|dep|val|cell|op|chunk|usg|nm|stt|par|rstt
 deriving DecidableEq
inductive Ty where
 |int (k:IntKind)|bool|str|lst (t:Ty)|st (n:SN)|pt (n:SN)
 deriving DecidableEq
@[reducible] def SD:SN->Type
 |.shape=>Shape
 |.item=>Item
 |.change=>Change
 |.token=>Tokn
 |.fault=>Flt
 |.term=>Trm
 |.version=>Vers
 |.bound=>Bnd
 |.imp=>Impt
 |.decl=>Dcl
 |.modu=>Modu
 |.bind=>Bndg
 |.env=>Envt
 |.dep=>Depd
 |.val=>Vlu
 |.cell=>Cel
 |.op=>Opn
 |.chunk=>Chnk
 |.usg=>Usg
 |.nm=>Nam
 |.stt=>Stt
 |.par=>Par
 |.rstt=>Rstt
@[reducible] def den:Ty->Type
 |.int _=>Int
 |.bool=>Bool
 |.str=>Str
 |.lst t=>List (den t)
 |.st n=>SD n
 |.pt n=>Option (SD n)
def dfl:(τ:Ty)->den τ
 |.int _=>(0:Int)
 |.bool=>false
 |.str=>([]:Str)
 |.lst _=>[]
 |.pt _=>none
 |.st .shape=>(default:Shape)
 |.st .item=>(default:Item)
 |.st .change=>(default:Change)
 |.st .token=>(default:Tokn)
 |.st .fault=>(default:Flt)
 |.st .term=>(default:Trm)
 |.st .version=>(default:Vers)
 |.st .bound=>(default:Bnd)
 |.st .imp=>(default:Impt)
 |.st .decl=>(default:Dcl)
 |.st .modu=>(default:Modu)
 |.st .bind=>(default:Bndg)
 |.st .env=>(default:Envt)
 |.st .dep=>(default:Depd)
 |.st .val=>(default:Vlu)
 |.st .cell=>(default:Cel)
 |.st .op=>(default:Opn)
 |.st .chunk=>(default:Chnk)
 |.st .usg=>(default:Usg)
 |.st .nm=>(default:Nam)
 |.st .stt=>(default:Stt)
 |.st .par=>(default:Par)
 |.st .rstt=>(default:Rstt)
inductive AV where
 |undef
 |int (k:IntKind) (n:Int)
 |bool (b:Bool)
 |str (s:Str)
 |lst (τ:Ty) (xs:List (den τ)) (o:Option Nat)
 |nils
 |ptr (id off:Nat)
 |cptr (c:AV)
 |nilp
 |pt (n:SN) (x:Option (SD n))
 |st (n:SN) (x:SD n)
 |agg (cs:List AV)
 |tup (vs:List AV)
 |fn (f:Nat) (cs:List AV)
 |row (τ:Ty) (xs:List (den τ))
 |arr (id n w:Nat)
 |aptr (id i w off:Nat)
 |bptr (id:Nat)
 |iface (t:Nat) (a:AV)
 |nilif
 |lstp (τ:Ty) (xs:List (den τ)) (k:Nat)
 |tptr (τ:Ty) (n k:Nat)
instance:Inhabited AV:=⟨.undef⟩
def ej(x:Shape):List AV:=.int .i64 x.kind::(.str x.pkg::(.str x.name::(.lst .str x.names none::(.lst (.st .shape) x.parts none::[]))))
def iL(x:Item):List AV:=.int .i64 x.kind::(.str x.name::(ej x.shape++[]))
def fN(x:Change):List AV:=.int .i64 x.kind::(.str x.name::[])
def gB(x:Tokn):List AV:=.int .i64 x.kind::(.str x.text::(.int .i64 x.pos::[]))
def gD(x:Flt):List AV:=.int .i64 x.err::(.int .i64 x.pos::[])
def gE(x:Trm):List AV:=.int .i64 x.kind::(.str x.pkg::(.str x.name::(.int .i64 x.n::(.lst .str x.names none::(.lst .str x.vars none::(.lst (.st .shape) x.shapes none::(.lst (.st .term) x.parts none::(.int .i64 x.pos::[]))))))))
def dH(x:Vers):List AV:=.int .i64 x.major::(.int .i64 x.minor::(.int .i64 x.patch::(.str x.pre::[])))
def gF(x:Bnd):List AV:=.int .i64 x.op::(dH x.v++[])
def jX(x:Impt):List AV:=.str x.name::(dH x.pin++(.lst (.st .bound) x.range none::(.int .i64 x.pos::[])))
def iM(x:Dcl):List AV:=.int .i64 x.kind::(.str x.name::(ej x.shape++(gE x.term++(.int .i64 x.pos::[]))))
def iN(x:Modu):List AV:=.str x.name::(.lst (.st .imp) x.imports none::(.lst (.st .decl) x.decls none::(.lst .str x.exports none::(.int .i64 x.pos::[]))))
def iO(x:Bndg):List AV:=.str x.pkg::(.str x.name::(ej x.shape++[]))
def jY(x:Envt):List AV:=.str x.self::(.lst (.st .bind) x.types none::(.lst (.st .bind) x.values none::(.lst (.st .bind) x.own none::[])))
def jZ(x:Depd):List AV:=.str x.name::(.lst (.st .item) x.items none::[])
def j6(x:Vlu):List AV:=.int .i64 x.kind::(.int .i64 x.n::(.str x.pkg::(.str x.text::(.lst .str x.names none::(.lst (.st .val) x.parts none::[])))))
def iP(x:Cel):List AV:=.str x.name::(j6 x.value++[])
def mK(x:Opn):List AV:=.int .i64 x.kind::(.int .i64 x.n::(.str x.name::(.lst .str x.names none::(.lst (.int .i64) x.tos none::(.int .i64 x.pos::[])))))
def gG(x:Chnk):List AV:=.int .i64 x.args::(.lst (.st .op) x.ops none::[])
def k0(x:Usg):List AV:=.str x.pkg::(.str x.name::[])
def mL(x:Nam):List AV:=.str x.pkg::(.str x.name::[])
def ka(x:Stt):List AV:=.int .i64 x.things::(.int .i64 x.names::[])
def kb(x:Par):List AV:=.lst (.st .token) x.toks none::(.int .i64 x.pos::(.int .i64 x.err::(.int .i64 x.fat::[])))
def iQ(x:Rstt):List AV:=.bool x.known::(.int .i64 x.things::(.int .i64 x.names::[]))
def cells:(τ:Ty)->den τ->List AV
 |.int k,n=>[.int k n]
 |.bool,b=>[.bool b]
 |.str,s=>[.str s]
 |.lst t,l=>[.lst t l none]
 |.pt n,x=>[.pt n x]
 |.st .shape,x=>ej x
 |.st .item,x=>iL x
 |.st .change,x=>fN x
 |.st .token,x=>gB x
 |.st .fault,x=>gD x
 |.st .term,x=>gE x
 |.st .version,x=>dH x
 |.st .bound,x=>gF x
 |.st .imp,x=>jX x
 |.st .decl,x=>iM x
 |.st .modu,x=>iN x
 |.st .bind,x=>iO x
 |.st .env,x=>jY x
 |.st .dep,x=>jZ x
 |.st .val,x=>j6 x
 |.st .cell,x=>iP x
 |.st .op,x=>mK x
 |.st .chunk,x=>gG x
 |.st .usg,x=>k0 x
 |.st .nm,x=>mL x
 |.st .stt,x=>ka x
 |.st .par,x=>kb x
 |.st .rstt,x=>iQ x
def ag:Ty->Nat
 |.st .shape=>5
 |.st .item=>7
 |.st .change=>2
 |.st .token=>3
 |.st .fault=>2
 |.st .term=>9
 |.st .version=>4
 |.st .bound=>5
 |.st .imp=>7
 |.st .decl=>17
 |.st .modu=>5
 |.st .bind=>7
 |.st .env=>4
 |.st .dep=>2
 |.st .val=>6
 |.st .cell=>7
 |.st .op=>6
 |.st .chunk=>2
 |.st .usg=>2
 |.st .nm=>2
 |.st .stt=>2
 |.st .par=>4
 |.st .rstt=>3
 |_=>1
def oj(n m:SN)(x:SD n):Option (SD m):=if h:n=m then some (h ▸ x)else none
def lI(τ σ:Ty)(xs:List (den τ)):Option (List (den σ)):=if h:τ=σ then some (h ▸ xs)else none
def asInt(k:IntKind):AV->Option Int
 |.int k' n=>if k'=k then some n else none
 |_=>none
def ra:AV->Option Bool
 |.bool b=>some b
 |_=>none
def dZ:AV->Option Str
 |.str s=>some s
 |_=>none
def eR(σ:Ty):AV->Option (List (den σ))
 |.lst τ xs _=>lI τ σ xs
 |.nils=>some []
 |_=>none
def uT(n m:SN)(x:Option (SD n)):Option (Option (SD m)):=if h:n=m then some (h ▸ x)else none
def Lm(n:SN):AV->Option (Option (SD n))
 |.pt m x=>uT m n x
 |.nilp=>some none
 |.cptr (.st m x)=>uT m n (some x)
 |_=>none
def iR:List AV->Option Shape
 |[c0,c1,c2,c3,c4]=>
  match asInt .i64 c0,dZ c1,dZ c2,eR .str c3,eR (.st .shape) c4 with
  |some x0,some x1,some x2,some x3,some x4=>some ⟨x0,x1,x2,x3,x4⟩
  |_,_,_,_,_=>none
 |_=>none
def rB:List AV->Option Item
 |[c0,c1,c2,c3,c4,c5,c6]=>
  match asInt .i64 c0,dZ c1,iR [c2,c3,c4,c5,c6]with
  |some x0,some x1,some x2=>some ⟨x0,x1,x2⟩
  |_,_,_=>none
 |_=>none
def nK:List AV->Option Change
 |[c0,c1]=>
  match asInt .i64 c0,dZ c1 with
  |some x0,some x1=>some ⟨x0,x1⟩
  |_,_=>none
 |_=>none
def pG:List AV->Option Tokn
 |[c0,c1,c2]=>
  match asInt .i64 c0,dZ c1,asInt .i64 c2 with
  |some x0,some x1,some x2=>some ⟨x0,x1,x2⟩
  |_,_,_=>none
 |_=>none
def pH:List AV->Option Flt
 |[c0,c1]=>
  match asInt .i64 c0,asInt .i64 c1 with
  |some x0,some x1=>some ⟨x0,x1⟩
  |_,_=>none
 |_=>none
def oq:List AV->Option Trm
 |[c0,c1,c2,c3,c4,c5,c6,c7,c8]=>
  match asInt .i64 c0,dZ c1,dZ c2,asInt .i64 c3,eR .str c4,eR .str c5,eR (.st .shape) c6,eR (.st .term) c7,asInt .i64 c8 with
  |some x0,some x1,some x2,some x3,some x4,some x5,some x6,some x7,some x8=>some ⟨x0,x1,x2,x3,x4,x5,x6,x7,x8⟩
  |_,_,_,_,_,_,_,_,_=>none
 |_=>none
def hZ:List AV->Option Vers
 |[c0,c1,c2,c3]=>
  match asInt .i64 c0,asInt .i64 c1,asInt .i64 c2,dZ c3 with
  |some x0,some x1,some x2,some x3=>some ⟨x0,x1,x2,x3⟩
  |_,_,_,_=>none
 |_=>none
def pI:List AV->Option Bnd
 |[c0,c1,c2,c3,c4]=>
  match asInt .i64 c0,hZ [c1,c2,c3,c4]with
  |some x0,some x1=>some ⟨x0,x1⟩
  |_,_=>none
 |_=>none
def vV:List AV->Option Impt
 |[c0,c1,c2,c3,c4,c5,c6]=>
  match dZ c0,hZ [c1,c2,c3,c4],eR (.st .bound) c5,asInt .i64 c6 with
  |some x0,some x1,some x5,some x6=>some ⟨x0,x1,x5,x6⟩
  |_,_,_,_=>none
 |_=>none
def rC:List AV->Option Dcl
 |[c0,c1,c2,c3,c4,c5,c6,c7,c8,c9,c10,c11,c12,c13,c14,c15,c16]=>
  match asInt .i64 c0,dZ c1,iR [c2,c3,c4,c5,c6],oq [c7,c8,c9,c10,c11,c12,c13,c14,c15],asInt .i64 c16 with
  |some x0,some x1,some x2,some x7,some x16=>some ⟨x0,x1,x2,x7,x16⟩
  |_,_,_,_,_=>none
 |_=>none
def rD:List AV->Option Modu
 |[c0,c1,c2,c3,c4]=>
  match dZ c0,eR (.st .imp) c1,eR (.st .decl) c2,eR .str c3,asInt .i64 c4 with
  |some x0,some x1,some x2,some x3,some x4=>some ⟨x0,x1,x2,x3,x4⟩
  |_,_,_,_,_=>none
 |_=>none
def rE:List AV->Option Bndg
 |[c0,c1,c2,c3,c4,c5,c6]=>
  match dZ c0,dZ c1,iR [c2,c3,c4,c5,c6]with
  |some x0,some x1,some x2=>some ⟨x0,x1,x2⟩
  |_,_,_=>none
 |_=>none
def vW:List AV->Option Envt
 |[c0,c1,c2,c3]=>
  match dZ c0,eR (.st .bind) c1,eR (.st .bind) c2,eR (.st .bind) c3 with
  |some x0,some x1,some x2,some x3=>some ⟨x0,x1,x2,x3⟩
  |_,_,_,_=>none
 |_=>none
def vX:List AV->Option Depd
 |[c0,c1]=>
  match dZ c0,eR (.st .item) c1 with
  |some x0,some x1=>some ⟨x0,x1⟩
  |_,_=>none
 |_=>none
def rb:List AV->Option Vlu
 |[c0,c1,c2,c3,c4,c5]=>
  match asInt .i64 c0,asInt .i64 c1,dZ c2,dZ c3,eR .str c4,eR (.st .val) c5 with
  |some x0,some x1,some x2,some x3,some x4,some x5=>some ⟨x0,x1,x2,x3,x4,x5⟩
  |_,_,_,_,_,_=>none
 |_=>none
def rF:List AV->Option Cel
 |[c0,c1,c2,c3,c4,c5,c6]=>
  match dZ c0,rb [c1,c2,c3,c4,c5,c6]with
  |some x0,some x1=>some ⟨x0,x1⟩
  |_,_=>none
 |_=>none
def AJ:List AV->Option Opn
 |[c0,c1,c2,c3,c4,c5]=>
  match asInt .i64 c0,asInt .i64 c1,dZ c2,eR .str c3,eR (.int .i64) c4,asInt .i64 c5 with
  |some x0,some x1,some x2,some x3,some x4,some x5=>some ⟨x0,x1,x2,x3,x4,x5⟩
  |_,_,_,_,_,_=>none
 |_=>none
def pJ:List AV->Option Chnk
 |[c0,c1]=>
  match asInt .i64 c0,eR (.st .op) c1 with
  |some x0,some x1=>some ⟨x0,x1⟩
  |_,_=>none
 |_=>none
def vY:List AV->Option Usg
 |[c0,c1]=>
  match dZ c0,dZ c1 with
  |some x0,some x1=>some ⟨x0,x1⟩
  |_,_=>none
 |_=>none
def AK:List AV->Option Nam
 |[c0,c1]=>
  match dZ c0,dZ c1 with
  |some x0,some x1=>some ⟨x0,x1⟩
  |_,_=>none
 |_=>none
def vZ:List AV->Option Stt
 |[c0,c1]=>
  match asInt .i64 c0,asInt .i64 c1 with
  |some x0,some x1=>some ⟨x0,x1⟩
  |_,_=>none
 |_=>none
def w4:List AV->Option Par
 |[c0,c1,c2,c3]=>
  match eR (.st .token) c0,asInt .i64 c1,asInt .i64 c2,asInt .i64 c3 with
  |some x0,some x1,some x2,some x3=>some ⟨x0,x1,x2,x3⟩
  |_,_,_,_=>none
 |_=>none
def rG:List AV->Option Rstt
 |[c0,c1,c2]=>
  match ra c0,asInt .i64 c1,asInt .i64 c2 with
  |some x0,some x1,some x2=>some ⟨x0,x1,x2⟩
  |_,_,_=>none
 |_=>none
def AM:(τ:Ty)->List AV->Option (den τ)
 |.int k,[a]=>asInt k a
 |.bool,[a]=>ra a
 |.str,[a]=>dZ a
 |.lst t,[a]=>eR t a
 |.pt n,[a]=>Lm n a
 |.st .shape,cs=>iR cs
 |.st .item,cs=>rB cs
 |.st .change,cs=>nK cs
 |.st .token,cs=>pG cs
 |.st .fault,cs=>pH cs
 |.st .term,cs=>oq cs
 |.st .version,cs=>hZ cs
 |.st .bound,cs=>pI cs
 |.st .imp,cs=>vV cs
 |.st .decl,cs=>rC cs
 |.st .modu,cs=>rD cs
 |.st .bind,cs=>rE cs
 |.st .env,cs=>vW cs
 |.st .dep,cs=>vX cs
 |.st .val,cs=>rb cs
 |.st .cell,cs=>rF cs
 |.st .op,cs=>AJ cs
 |.st .chunk,cs=>pJ cs
 |.st .usg,cs=>vY cs
 |.st .nm,cs=>AK cs
 |.st .stt,cs=>vZ cs
 |.st .par,cs=>w4 cs
 |.st .rstt,cs=>rG cs
 |_,_=>none
def JE:Ty->Bool
 |.st _=>true
 |_=>false
def inj:(τ:Ty)->den τ->AV
 |.int k,n=>.int k n
 |.bool,b=>.bool b
 |.str,s=>.str s
 |.lst t,l=>.lst t l none
 |.pt n,x=>.pt n x
 |.st n,x=>.st n x
def bD(τ:Ty)(xs:List (den τ)):List AV:=xs.flatMap (cells τ)
def aa:AV->List AV
 |.agg cs=>cs
 |.st n x=>cells (.st n) x
 |.row τ xs=>bD τ xs
 |a=>[a]
def arg:(τ:Ty)->AV->Option (den τ)
 |.st m,.st n x=>oj n m x
 |.st m,.agg cs=>AM (.st m) cs
 |.st _,_=>none
 |τ,a=>AM τ [a]
def lJ:(n:SN)->Nat->SD n->Option AV
 |.item,2,x=>some (.st .shape (Item.shape x))
 |.bound,1,x=>some (.st .version (Bnd.v x))
 |.imp,1,x=>some (.st .version (Impt.pin x))
 |.decl,2,x=>some (.st .shape (Dcl.shape x))
 |.decl,7,x=>some (.st .term (Dcl.term x))
 |.bind,2,x=>some (.st .shape (Bndg.shape x))
 |.cell,1,x=>some (.st .val (Cel.value x))
 |_,_,_=>none
def GC:(n:SN)->Nat->SD n->AV->Option AV
 |.item,2,x,.st .shape y=>some (.st .item ({(show Item from x)with shape:=y}:Item))
 |.bound,1,x,.st .version y=>some (.st .bound ({(show Bnd from x)with v:=y}:Bnd))
 |.imp,1,x,.st .version y=>some (.st .imp ({(show Impt from x)with pin:=y}:Impt))
 |.decl,2,x,.st .shape y=>some (.st .decl ({(show Dcl from x)with shape:=y}:Dcl))
 |.decl,7,x,.st .term y=>some (.st .decl ({(show Dcl from x)with term:=y}:Dcl))
 |.bind,2,x,.st .shape y=>some (.st .bind ({(show Bndg from x)with shape:=y}:Bndg))
 |.cell,1,x,.st .val y=>some (.st .cell ({(show Cel from x)with value:=y}:Cel))
 |_,_,_,_=>none
inductive SObj where
 |box (c:AV)
 |tail (τ:Ty) (n:Nat)
 |bld (t u:Nat) (l:Str)
 |tailp (τ:Ty) (n:Nat) (x:den τ)
structure St where
 t:List (Nat×AV)
 b:List (Nat×SObj)
def cx:List (Nat×AV)->Nat->AV
 |[],_=>.undef
 |(j,v)::r,i=>if j ==i then v else cx r i
def rH:List (Nat×AV)->Nat->AV->List (Nat×AV)
 |[],i,v=>[(i,v)]
 |(j,u)::r,i,v=>if j ==i then(i,v)::r else(j,u)::rH r i v
def aE:List (Nat×SObj)->Nat->Option SObj
 |[],_=>none
 |(j,v)::r,i=>if j ==i then some v else aE r i
def ot:List (Nat×SObj)->Nat->SObj->List (Nat×SObj)
 |[],i,v=>[(i,v)]
 |(j,u)::r,i,v=>if j ==i then(i,v)::r else(j,u)::ot r i v
inductive TI where
 |int (k:IntKind)|bool|str|slice (e:Nat)|ptr (e:Nat)|strct (e:Bool) (fs:List (Nat×Nat))|map (k e:Nat)|iface|arr (e n:Nat)|other
structure TR where
 ti:TI
 size:Nat
 bytes:Nat
 zero:List AV
 ty:Option Ty
structure Ans where
 ob:Option Prop
 pan:Option (Bool×AV×List (Nat×SObj))
 val:AV
 upd:List (Nat×SObj)
def Ans.ret(v:AV):Ans:=⟨none,none,v,[]⟩
structure Cfg where
 tbl:List (Nat×TR)
 spec:Nat->List AV->List (Nat×SObj)->Option Ans
 keeps:Nat->Bool
 lends:Nat->List (Option Nat)
 pend:Nat->Bool:=fun _=>false
 rows:Nat->Bool:=fun _=>false
 same:Nat->Bool:=fun _=>false
def bE:List (Nat×TR)->Nat->Option TR
 |[],_=>none
 |(j,r)::l,t=>if j ==t then some r else bE l t
def TR.isAgg(r:TR):Bool:=
 match r.ti with
 |.strct _ _=>true
 |.arr _ _=>true
 |_=>false
structure Eff where
 ob:Option Prop
 val:AV
 upd:List (Nat×SObj)
def Eff.pure(v:AV):Eff:=⟨none,v,[]⟩
def Eff.asks(e:Eff):Prop:=match e.ob with|none=>True|some p=>p
def inR(k:IntKind)(n:Int):Prop:=k.min<=n/\n<=k.max
def JF:IntKind->Nat
 |.i8=>127|.i16=>32767|.i32=>2147483647|.i64=>9223372036854775807
 |.u8=>255|.u16=>65535|.u32=>4294967295|.u64=>18446744073709551615
def D8:IntKind->Bool
 |.i8|.i16|.i32|.i64=>true
 |_=>false
def okC(k:IntKind):Int->Bool
 |.ofNat m=>Nat.ble m (JF k)
 |.negSucc m=>if D8 k then Nat.ble m (JF k)else false
def ib{α:Type}:List α->Nat->Bool
 |[],0=>true
 |_::r,n+1=>ib r n
 |_,_=>false
def ou{α:Type}:List α->Nat->Bool
 |[],_=>true
 |_::r,n+1=>ou r n
 |_::_,0=>false
def nth{α:Type}:List α->Nat->Option α
 |[],_=>none
 |a::_,0=>some a
 |_::r,n+1=>nth r n
def qu:List AV->Nat->Option (List AV)
 |_,0=>some []
 |a::r,n+1=>(match qu r n with|some l=>some (a::l)|none=>none)
 |[],_+1=>none
def nq:List AV->Nat->Option (List AV)
 |l,0=>some l
 |_::r,n+1=>nq r n
 |[],_+1=>none
def cQ:Value->AV
 |.int k n=>if okC k n then .int k n else .undef
 |.bool b=>.bool b
 |.string s=>if ou s.data.toList 100000 then .str s.data.toList else .undef
 |.slice none 0 0=>.nils
 |.pointer none=>.nilp
 |.nilIface=>.nilif
 |_=>.undef
def rf:Value->AV
 |.agg cs=>.agg (cs.toList.map cQ)
 |v=>cQ v
def opd(T:Nat->AV):Operand->AV
 |.tmp t=>T t
 |.const v=>rf v
 |.func f=>.fn f []
 |.global _=>.undef
def AN(op:BinOp)(k:IntKind)(a b:Int):Option Eff:=
 match op with
 |.add=>some ⟨some (inR k (a+b)),.int k (a+b),[]⟩
 |.sub=>some ⟨some (inR k (a-b)),.int k (a-b),[]⟩
 |.mul=>some ⟨some (inR k (a *b)),.int k (a *b),[]⟩
 |.quo=>some ⟨some (b≠0/\inR k (a.tdiv b)),.int k (a.tdiv b),[]⟩
 |.rem=>some ⟨some (b≠0/\inR k (a.tmod b)),.int k (a.tmod b),[]⟩
 |.eql=>some (.pure (.bool (decide (a=b))))
 |.neq=>some (.pure (.bool (!decide (a=b))))
 |.lss=>some (.pure (.bool (decide (a<b))))
 |.leq=>some (.pure (.bool (decide (a<=b))))
 |.gtr=>some (.pure (.bool (decide (b<a))))
 |.geq=>some (.pure (.bool (decide (b<=a))))
 |_=>none
def AO(op:BinOp)(a b:Str):Option Eff:=
 match op with
 |.add=>some ⟨some (a.length+b.length<=9223372036854775807),.str (a++b),[]⟩
 |.eql=>some (.pure (.bool (decide (a=b))))
 |.neq=>some (.pure (.bool (!decide (a=b))))
 |.lss=>some (.pure (.bool (Op.bytesLess a b)))
 | .leq=>some (.pure (.bool (Op.bytesLess a b||decide (a=b))))
 | .gtr=>some (.pure (.bool (!(Op.bytesLess a b||decide (a=b)))))
 |.geq=>some (.pure (.bool (!Op.bytesLess a b)))
 |_=>none
def w5(op:BinOp)(a b:Bool):Option Eff:=
 match op with
 |.eql=>some (.pure (.bool (a ==b)))
 |.neq=>some (.pure (.bool (!(a ==b))))
 |_=>none
def sub(cs:List AV)(off n:Nat):Option (List AV):=
 match nq cs off with
 |some cs=>qu cs n
 |none=>none
def eC(r:TR)(cs:List AV):Option AV:=
 if r.isAgg then some (.agg cs)else(match cs with|[c]=>some c|_=>none)
def lK:List AV->List AV->Option (List AV)
 |cs,[]=>some cs
 |_::cs,v::vs=>(match lK cs vs with|some l=>some (v::l)|none=>none)
 |[],_::_=>none
def splice:List AV->Nat->List AV->Option (List AV)
 |cs,0,vs=>lK cs vs
 |c::cs,n+1,vs=>(match splice cs n vs with|some l=>some (c::l)|none=>none)
 |[],_+1,_=>none
def ng:AV->Bool
 |.undef|.agg _|.tup _|.st _ _|.row _ _=>false
 |_=>true
def nr(r:TR)(c:AV)(off:Nat):Option AV:=
 match c,off,r.ty with
 |.st n x,0,some (.st m)=>
  if n=m then some (.st n x)else(match sub (aa (.st n x)) 0 r.size with|some cs=>eC r cs|none=>none)
 |.st n x,o+1,some (.st m)=>
  (match lJ n (o+1) x with
  |some (.st m' y)=>if m'=m then some (.st m' y)else none
  |_=>(match sub (aa (.st n x)) (o+1) r.size with|some cs=>eC r cs|none=>none))
 |c,off,_=>(match sub (aa c) off r.size with|some cs=>eC r cs|none=>none)
def w6(r:TR)(c:AV)(off:Nat)(v:AV):Option AV:=
 if(aa v).all ng&&ib (aa v) r.size then
  (match off with
  |0=>if ib (aa c) r.size then some v else(match splice (aa c) 0 (aa v)with|some cs=>some (.agg cs)|none=>none)
  |o+1=>(match splice (aa c) (o+1) (aa v)with|some cs=>some (.agg cs)|none=>none))
 else none
def xN(fs:List (Nat×Nat))(size:Nat->Option Nat)(zero:List AV):List (Nat×AV)->Option (List AV)
 |[]=>some zero
 |(i,v)::r=>
  match nth fs i with
  |some (off,t)=>
   (match size t with
   |some n=>if(aa v).all ng&&ib (aa v) n then(match splice zero off (aa v)with|some z=>xN fs size z r|none=>none)else none
   |none=>none)
  |none=>none
def rI(τ:Ty)(i:Nat):List (Nat×AV)->Option (List (den τ))
 |[]=>some []
 |(j,v)::r=>
  if j ==i then
   (match arg τ v,rI τ (i+1) r with
    |some x,some l=>some (x::l)
    |_,_=>none)
  else none
def rh(r:TR)(f:Nat):Option (Nat×Nat):=
 match r.ti with
 |.strct _ fs=>nth fs f
 |_=>none
def bnd(T:Nat->AV):Option Operand->Option (Option Int)
 |none=>some none
 |some x=>match opd T x with
  |.int .i64 n=>some (some n)
  |_=>none
def b9(s:Str):List Int:=s.map fun b=>(b.toNat:Int)
def ri(C:Cfg)(t:Nat)(dst:Nat)(x y:AV)(look:Nat->Option SObj):Option Eff:=
 match bE C.tbl t with
 |some ⟨.slice e,_,_,_,_⟩=>
  (match bE C.tbl e with
  |some re=>
   (match x,y with
   |.lst τ xs (some k),.lst σ ys _=>
    (match lI σ τ ys,look k with
    |some [z],some (.tail τ' n)=>
     if τ'=τ/\re.ty=some τ then
      some ⟨some (xs.length=n/\(xs.length+1) *re.bytes<=140737488355328),.lstp τ xs k,[(k,.tailp τ xs.length z)]⟩
     else none
    |_,_=>none)
   |.nils,.lst σ [z] _=>
    (match look dst with
    |none=>if re.ty=some σ then some ⟨some (1 *re.bytes<=140737488355328),.lstp σ [] dst,[(dst,.tailp σ 0 z)]⟩else none
    |_=>none)
   |_,_=>none)
  |none=>none)
 |_=>none
def w7(C:Cfg)(t:Nat)(dst:Nat)(x y:AV)(look:Nat->Option SObj):Option Eff:=
 match bE C.tbl t with
 |some ⟨.slice e,_,_,_,_⟩=>
  (match bE C.tbl e with
  |some re=>
   (match x,y with
   |.nils,.nils=>some (.pure .nils)
   |.lst τ xs o,.nils=>some (.pure (.lst τ xs o))
   |.lst τ xs (some k),.lst σ ys _=>
    (match lI σ τ ys,look k with
    |some ys,some (.tail τ' n)=>
     if τ'=τ/\re.ty=some τ then
      some ⟨some (xs.length=n/\(xs.length+ys.length) *re.bytes<=140737488355328),.lst τ (xs++ys) (some k),[(k,.tail τ (xs++ys).length)]⟩
     else none
    |_,_=>none)
   |.nils,.lst σ ys _=>
    (match look dst with
    |none=>if re.ty=some σ then some ⟨some (ys.length *re.bytes<=140737488355328),.lst σ ys (some dst),[(dst,.tail σ ys.length)]⟩else none
    |_=>none)
   |_,_=>none)
  |none=>none)
 |_=>none
def kM(xs:List Int):Str:=xs.map fun n=>UInt8.ofNat n.toNat
def rj(C:Cfg)(t t':Nat)(x:AV)(s:Str)(look:Nat->Option SObj):Option Eff:=
 match bE C.tbl t,bE C.tbl t' with
 |some ⟨.slice e,_,_,_,_⟩,some ⟨.str,_,_,_,_⟩=>
  (match bE C.tbl e with
  |some ⟨.int .u8,_,bytes,_,some (.int .u8)⟩=>
   (match x with
   |.lst (.int .u8) xs (some k)=>
    (match look k with
    |some (.tail (.int .u8) n)=>
     some ⟨some (xs.length=n/\(xs.length+s.length) *bytes<=140737488355328),.lst (.int .u8) (xs++b9 s) (some k),[(k,.tail (.int .u8) (xs++b9 s).length)]⟩
    |_=>none)
   |_=>none)
  |_=>none)
 |_,_=>none
def L2(C:Cfg)(s d:Nat)(x:AV):Option Eff:=
 match bE C.tbl s,bE C.tbl d,x with
 |some ⟨.slice e,_,_,_,_⟩,some ⟨.str,_,_,_,_⟩,.lst (.int .u8) xs _=>
  (match bE C.tbl e with
  |some ⟨.int .u8,_,_,_,some (.int .u8)⟩=>some (.pure (.str (kM xs)))
  |_=>none)
 |some ⟨.str,_,_,_,_⟩,some ⟨.slice e,_,_,_,_⟩,.str s=>
  (match bE C.tbl e with
  |some ⟨.int .u8,_,_,_,some (.int .u8)⟩=>some (.pure (.lst (.int .u8) (b9 s) none))
  |_=>none)
 |_,_,_=>none
def ids:AV->List Nat
 |.ptr i _=>[i]
 |.lst _ _ (some i)=>[i]
 |.agg cs=>idsL cs
 |.tup cs=>idsL cs
 |.fn _ cs=>idsL cs
 |.cptr c=>ids c
 |.arr i _ _=>[i]
 |.aptr i _ _ _=>[i]
 |.bptr i=>[i]
 |.iface _ a=>ids a
 |.lstp _ _ k=>[k]
 |.tptr _ _ k=>[k]
 |_=>[]
where idsL:List AV->List Nat
 |[]=>[]
 |a::r=>ids a++idsL r
def AP:SObj->List Nat
 |.box c=>ids c
 |_=>[]
mutual
def mapV(fp:Nat->Nat->Option (Nat×Nat))(fi ft:Nat->Option Nat):AV->Option AV
 |.ptr i o=>(match fp i o with|some (j,p)=>some (.ptr j p)|none=>none)
 |.lst τ xs o=>(match o with|some k=>some (.lst τ xs (ft k))|none=>some (.lst τ xs none))
 |.cptr c=>(match mapV fp fi ft c with|some c=>some (.cptr c)|none=>none)
 |.agg cs=>(match mapVs fp fi ft cs with|some cs=>some (.agg cs)|none=>none)
 |.tup cs=>(match mapVs fp fi ft cs with|some cs=>some (.tup cs)|none=>none)
 |.fn f cs=>(match mapVs fp fi ft cs with|some cs=>some (.fn f cs)|none=>none)
 |.arr i n w=>(match fi i with|some j=>some (.arr j n w)|none=>none)
 |.aptr i n w o=>(match fi i with|some j=>some (.aptr j n w o)|none=>none)
 |.bptr i=>(match fi i with|some j=>some (.bptr j)|none=>none)
 |.iface t a=>(match mapV fp fi ft a with|some a=>some (.iface t a)|none=>none)
 |.lstp _ _ _=>none
 |.tptr _ _ _=>none
 |a=>some a
def mapVs(fp:Nat->Nat->Option (Nat×Nat))(fi ft:Nat->Option Nat):List AV->Option (List AV)
 |[]=>some []
 |a::r=>(match mapV fp fi ft a,mapVs fp fi ft r with|some a,some r=>some (a::r)|_,_=>none)
end
abbrev dS:=Nat×Option (Nat×Nat)
def lC(look:Nat->Option SObj):Nat->List Nat->List Nat->List Nat
 |0,_,acc=>acc
 |_+1,[],acc=>acc
 |n+1,i::r,acc=>
  if acc.contains i then lC look n r acc
  else lC look n (r++(match look i with|some o=>AP o|none=>[])) (acc++[i])
def idx:List dS->Nat->Nat->Option (Nat×Option (Nat×Nat))
 |[],_,_=>none
 |(j,r)::l,i,k=>if j ==i then some (k,r)else idx l i (k+1)
def cU(i:Nat):Bool:=Nat.ble 900 i&&Nat.blt i 1000
def toP(L:List dS)(i o:Nat):Option (Nat×Nat):=
 match idx L i 900 with
 |some (k,none)=>some (k,o)
 |some (k,some (off,len))=>if Nat.ble off o&&Nat.blt o (off+len)then some (k,o-off)else none
 |none=>none
def toI(L:List dS)(i:Nat):Option Nat:=
 match idx L i 900 with
 |some (k,none)=>some k
 |_=>none
def nid(d k:Nat):Nat:=(k+1) *1000+d
def bF(L:List dS)(k:Nat):Option dS:=if Nat.ble 900 k then nth L (k-900)else none
def qv(L:List dS)(d k o:Nat):Option (Nat×Nat):=
 match bF L k with
 |some (i,none)=>some (i,o)
 |some (i,some (off,_))=>some (i,off+o)
 |none=>some (nid d k,o)
def iC(L:List dS)(d k:Nat):Option Nat:=
 match bF L k with
 |some (i,none)=>some i
 |some (_,some _)=>none
 |none=>some (nid d k)
def GD(c:AV)(off len:Nat):Option AV:=match sub (aa c) off len with|some cs=>some (.agg cs)|none=>none
def GF(c:AV):Option (Nat×Nat)->Option AV
 |none=>some c
 |some (off,len)=>
  match c with
  |.st n x=>
   (match lJ n off x with
   |some (.st m y)=>if ag (.st m)=len then some (.st m y)else GD (.st n x) off len
   |_=>GD (.st n x) off len)
  |c=>GD c off len
def JG(c:AV)(off:Nat)(d:AV):Option AV:=match splice (aa c) off (aa d)with|some cs=>some (.agg cs)|none=>none
def JH(c:AV)(r:Option (Nat×Nat))(d:AV):Option AV:=
 match r with
 |none=>some d
 |some (off,len)=>
  if ib (aa d) len then
   (match c with
   |.st n x=>(match GC n off x d with|some a=>some a|none=>JG (.st n x) off d)
   |c=>JG c off d)
  else none
def iy(L:List dS)(r:Option (Nat×Nat)):SObj->Option SObj
 |.box c=>
  (match GF c r with
  |some c=>(match mapV (toP L) (toI L) (toI L) c with|some c=>some (.box c)|none=>none)
  |none=>none)
 |.tailp _ _ _=>none
 |o=>(match r with|none=>some o|some _=>none)
def ow(look:Nat->Option SObj)(L:List dS):List dS->Nat->Option (List (Nat×SObj))
 |[],_=>some []
 |(i,r)::l,k=>
  match look i with
  |some o=>(match iy L r o,ow look L l (k+1)with|some o,some l=>some ((k,o)::l)|_,_=>none)
  |none=>none
def kc(L:List dS)(d:Nat)(r:Option (Nat×Nat))(old:Option SObj):SObj->Option SObj
 |.box c=>
  (match mapV (qv L d) (iC L d) (iC L d) c with
  |some c=>(match old with|some (.box b)=>(match JH b r c with|some c=>some (.box c)|none=>none)|none=>some (.box c)|_=>none)
  |none=>none)
 |.tailp _ _ _=>none
 |o=>(match r with|none=>some o|some _=>none)
def lD(look:Nat->Option SObj)(L:List dS)(d:Nat):List (Nat×SObj)->Option (List (Nat×SObj))
 |[]=>some []
 |(k,o)::u=>
  match bF L k with
  |some (i,r)=>
   (match look i with
   |some old=>(match kc L d r (some old) o,lD look L d u with|some o,some u=>some ((i,o)::u)|_,_=>none)
   |none=>none)
  |none=>
   (match look (nid d k)with
   |none=>(match kc L d none none o,lD look L d u with|some o,some u=>some ((nid d k,o)::u)|_,_=>none)
   |some _=>none)
def fX(L:List dS)(d:Nat)(u:List (Nat×SObj)):List Nat:=
 u.filterMap fun x=>match bF L x.1 with|some _=>none|none=>some (nid d x.1)
def iD(S u:List (Nat×SObj)):List (Nat×SObj):=u++S.filter fun x=>!(u.map (·.1)).contains x.1
def AQ(i:Nat):List AV->List (Option Nat)->Option (Nat×Nat)
 |.ptr j o::r,n::ns=>if j ==i then(match n with|some n=>some (o,n)|none=>none)else AQ i r ns
 |_::r,_::ns=>AQ i r ns
 |_,_=>none
def D9(look:Nat->Option SObj)(i:Nat):Bool:=match look i with|some (.box _)=>true|_=>false
structure CallR where
 foot:List Nat
 eff:Eff
 pan:Option (Bool×AV×List (Nat×SObj))
def cR:List Nat->Bool
 |[]=>true
 |a::r=>!r.contains a&&cR r
def gH(C:Cfg)(f:Nat)(args:List AV)(look:Nat->Option SObj):List dS:=
 (lC look 64 (ids.idsL args) []).map fun i=>(i,if D9 look i then AQ i args (C.lends f)else none)
def Da(look:Nat->Option SObj)(L:List dS)(S:List (Nat×SObj))(d:Nat)(A:Ans):Option CallR:=
 match mapV (qv L d) (iC L d) (iC L d) A.val,lD look L d (iD S A.upd),cR (A.upd.map (·.1))with
 |some v,some u,true=>
  (match A.pan with
  |none=>some ⟨fX L d A.upd,⟨A.ob,v,u⟩,none⟩
  |some (b,pv,pu)=>
   (match mapV (qv L d) (iC L d) (iC L d) pv,lD look L d (iD S pu),cR (pu.map (·.1))with
   |some pv,some pu',true=>some ⟨fX L d A.upd++fX L d pu,⟨A.ob,v,u⟩,some (b,pv,pu')⟩
   |_,_,_=>none))
 |_,_,_=>none
def kN(keeps:Bool)(args:List AV):Option (List AV):=
 match keeps with
 |true=>some args
 |false=>mapVs (fun i o=>some (i,o)) some (fun _=>none) args
def GH(C:Cfg)(d:Nat)(f:Nat)(args:List AV)(look:Nat->Option SObj)(L:List dS):Option CallR:=
 match cR (L.map (·.1))&&Nat.blt d 1000&&Nat.ble L.length 100 with
 |true=>
  (match mapVs (toP L) (toI L) (toI L) args,ow look L L 900 with
  |some as,some S=>(match C.spec f as S with|some A=>Da look L S d A|none=>none)
  |_,_=>none)
 |false=>none
def rJ(C:Cfg)(d:Nat)(f:Nat)(args:List AV)(look:Nat->Option SObj):Option CallR:=
 match kN (C.keeps f) args with
 |none=>none
 |some args=>GH C d f args look (gH C f args look)
def dz(T:Nat->AV)(c:Call):Option (Nat×List AV):=
 match c.callee with
 |.value (.func f)=>some (f,c.args.toList.map (opd T))
 |.value (.tmp t)=>(match T t with|.fn f caps=>some (f,c.args.toList.map (opd T)++caps)|_=>none)
 |_=>none
def gI(C:Cfg)(o:Oper)(T:Nat->AV)(look:Nat->Option SObj):Option CallR:=
 match o.op,o.dst with
 |.call c,some d=>(match dz T c with|some (f,args)=>rJ C d f args look|none=>none)
 |_,_=>none
def jD(look:Nat->Option SObj):List (Nat×SObj)->Prop
 |[]=>True
 |(i,o)::r=>(match look i with|some o'=>o'=o/\jD look r|none=>jD look r)
def xO(look:Nat->Option SObj):List (Nat×SObj)->List (Nat×SObj)
 |[]=>[]
 |(i,o)::r=>(match look i with|some _=>xO look r|none=>(i,o)::xO look r)
def fY(b:Bool)(look:Nat->Option SObj)(e:Eff):Eff:=
 match b with
 |false=>e
 |true=>⟨some (e.asks/\jD look e.upd),e.val,xO look e.upd⟩
def GI(b:Bool)(u:List (Nat×SObj)):List Nat:=match b with|true=>u.map (·.1)|false=>[]
def lL(C:Cfg)(o:Oper):Bool:=match o.dst with|some d=>C.same d|none=>false
def bq(C:Cfg)(o:Oper)(T:Nat->AV)(look:Nat->Option SObj):List Nat:=
 match o.op with
 |.alloc _|.box ..|.buildSlice ..|.makeSlice ..=>o.dst.toList
 |.load _ a|.store _ a _=>(match opd T a with|.ptr id _=>[id]|.aptr id _ _ _=>[id]|.tptr _ _ k=>[k]|_=>[])
 |.call {callee:=.builtin .append,args,..}=>
  (match args.toList with
  |[x,_]=>(match opd T x with|.lst _ _ (some k)=>[k]|.nils=>o.dst.toList|_=>[])
  |_=>[])
 |.call {callee:=.builtin .len,..}=>[]
 |.call c=>
  (match dz T c with
  |some (f,args)=>
   (match kN (C.keeps f) args with
   |some args=>(gH C f args look).map (·.1)++(match gI C o T look with|some r=>r.foot++GI (lL C o) r.eff.upd|none=>[])
   |none=>[])
  |none=>[])
 |_=>[]
def eD(C:Cfg)(o:Oper)(T:Nat->AV)(look:Nat->Option SObj):Option (Bool×AV×List (Nat×SObj)):=
 match o.op with
 |.panic x=>some (true,opd T x,[])
 |.call _=>(match gI C o T look with|some r=>r.pan|none=>none)
 |_=>none
def Mk(r:TR)(n:SN):Bool:=
 match r.ty with
 |some (.st m)=>decide (n=m)
 |_=>false
def ox:AV->Option (List AV)
 |.agg cs=>some cs
 |.st n x=>some (cells (.st n) x)
 |_=>none
def AR:TI->AV->AV->Option Bool
 |.int _,.int j a,.int k b=>if j=k then some (decide (a=b))else none
 |.bool,.bool a,.bool b=>some (a ==b)
 |.str,.str a,.str b=>some (decide (a=b))
 |_,_,_=>none
def GJ(C:Cfg):List (Nat×Nat)->List AV->List AV->Option Bool
 |[],_,_=>some true
 |(off,t)::r,cs,ds=>
  match bE C.tbl t,nth cs off,nth ds off with
  |some rt,some c,some d=>(match AR rt.ti c d,GJ C r cs ds with|some b,some b'=>some (b&&b')|_,_=>none)
  |_,_,_=>none
def AT(C:Cfg)(op:BinOp)(t:Nat)(cs ds:List AV):Option Eff:=
 match bE C.tbl t with
 |some ⟨.strct true fs,_,_,_,_⟩=>
  (match GJ C fs cs ds with
  |some b=>(match op with|.eql=>some (.pure (.bool b))|.neq=>some (.pure (.bool (!b)))|_=>none)
  |none=>none)
 |_=>none
def Db(r:TR)(τ:Ty)(xs:List (den τ))(i w off:Nat):Option Eff:=
 if w=ag τ then
  (match nr r (inj τ (xs.getD i (dfl τ))) off with|some v=>some ⟨some (i<xs.length),v,[]⟩|none=>none)
 else none
def rK(r:TR)(id:Nat)(τ:Ty)(xs:List (den τ))(i w off:Nat)(v:AV):Option Eff:=
 if w=ag τ then
  (match w6 r (inj τ (xs.getD i (dfl τ))) off v with
  |some c=>(match arg τ c with|some x=>some ⟨some (i<xs.length),.undef,[(id,.box (.row τ (xs.set i x)))]⟩|none=>none)
  |none=>none)
 else none
def JI:List AV->Bool
 |[]=>true
 |.int .i64 (.ofNat 0)::r=>JI r
 |_=>false
def Dc(r:TR):Option AV:=
 match r.ti with
 |.arr _ n=>if JI r.zero&&ib r.zero n then some (.row (.int .i64) (List.replicate n (0:Int)))else none
 |_=>if r.isAgg then some (.agg r.zero)else(match r.zero with|[c]=>some c|_=>none)
def L3(tbl:List (Nat×TR))(e:Nat)(r:TR):Option Nat:=
 match r.ti,r.zero with
 |.strct _ [(_,p),(_,s)],[.nilp,.nils]=>
  (match bE tbl p,bE tbl s with
  |some rp,some rs=>(match rp.ti,rs.ti with|.ptr e',.slice u=>if e'=e then some u else none|_,_=>none)
  |_,_=>none)
 |_,_=>none
def GK(C:Cfg)(t:Nat)(x:AV)(lo hi:Option (Option Int)):Option Eff:=
  match bE C.tbl t,x,lo,hi with
  |some ⟨.str,_,_,_,_⟩,.str s,some l,some h=>
   some ⟨some (0<=l.getD 0/\l.getD 0<=h.getD s.length/\h.getD s.length<=s.length),.str ((s.take (h.getD s.length).toNat).drop (l.getD 0).toNat),[]⟩
  |some ⟨.slice e,_,_,_,_⟩,.lst τ xs _,some l,some h=>
   (match bE C.tbl e with
   |some re=>
    if re.ty=some τ then
     some ⟨some (0<=l.getD 0/\l.getD 0<=h.getD xs.length/\h.getD xs.length<=xs.length),.lst τ ((xs.take (h.getD xs.length).toNat).drop (l.getD 0).toNat) none,[]⟩
    else none
   |none=>none)
  |_,_,_,_=>none
def lenF(C:Cfg)(t:Nat)(x:AV)(look:Nat->Option SObj):Option Eff:=
   match bE C.tbl t,x with
   |some ⟨.str,_,_,_,_⟩,.str s=>some (.pure (.int .i64 (s.length:Int)))
   |some ⟨.slice _,_,_,_,_⟩,.lst _ xs _=>some (.pure (.int .i64 (xs.length:Int)))
   |some ⟨.slice _,_,_,_,_⟩,.nils=>some (.pure (.int .i64 0))
   |some ⟨.slice _,_,_,_,_⟩,.arr _ n _=>some (.pure (.int .i64 n))
   |_,_=>none
def aQ(C:Cfg)(o:Oper)(T:Nat->AV)(look:Nat->Option SObj):Option Eff:=
 match o.op with
 |.move x|.assign x=>some (.pure (opd T x))
 |.pick c a b=>(match opd T c with|.bool c=>some (.pure (if c=true then opd T a else opd T b))|_=>none)
 |.alloc e=>
  (match o.dst,bE C.tbl e with
  |some d,some r=>
   (match L3 C.tbl e r with
   |some u=>(match look d with|none=>some ⟨none,.bptr d,[(d,.bld e u [])]⟩|_=>none)
   |none=>
   (match look d,Dc r with
   |none,some c=>some ⟨none,.ptr d 0,[(d,.box c)]⟩
   |_,_=>none))
  |_,_=>none)
 |.box e x=>
  (match o.dst,bE C.tbl e with
  |some d,some r=>
   (match look d with
   |none=>if(aa (opd T x)).all ng&&ib (aa (opd T x)) r.size then some ⟨none,.ptr d 0,[(d,.box (opd T x))]⟩else none
   |_=>none)
  |_,_=>none)
 |.build t ps=>
  (match bE C.tbl t with
  |some ⟨.strct _ fs,_,_,zero,_⟩=>
   (match xN fs (fun t=>(bE C.tbl t).map (·.size)) zero (ps.toList.map fun(i,x)=>(i,opd T x))with
   |some cs=>some (.pure (.agg cs))
   |none=>none)
  |_=>none)
 |.buildSlice t len ps=>
  (match o.dst,bE C.tbl t with
  |some d,some ⟨.slice e,_,_,_,_⟩=>
   (match bE C.tbl e with
   |some ⟨_,size,_,_,some τ⟩=>
    (match rI τ 0 (ps.toList.map fun(i,x)=>(i,opd T x)),look d with
    |some l,none=>if(ib l len&&Nat.ble (len *size) 1000000)&&(ps.toList.map fun(i,x)=>(i,opd T x)).all (fun p=>(aa p.2).all ng)then(match C.rows d with|false=>some ⟨none,.lst τ l (some d),[(d,.tail τ l.length)]⟩|true=>some ⟨none,.arr d l.length size,[(d,.box (.row τ l))]⟩)else none
    |_,_=>none)
   |_=>none)
  |_,_=>none)
 |.load t a=>
  (match bE C.tbl t with
  |some r=>
   (match opd T a with
   |.ptr id off=>
    (match look id with
    |some (.box c)=>(nr r c off).map .pure
    |_=>none)
   |.cptr c=>(nr r c 0).map .pure
   |.aptr id i w off=>
    (match look id with
    |some (.box (.row τ xs))=>Db r τ xs i w off
    |_=>none)
   |_=>none)
  |none=>none)
 |.store t a x=>
  (match bE C.tbl t with
  |some r=>
   (match r.size with
   |0=>(match opd T a,aa (opd T x)with|.ptr _ _,[]=>some (.pure .undef)|_,_=>none)
   |_+1=>
   (match opd T a with
   |.ptr id off=>
    (match look id with
    |some (.box c)=>
     (match w6 r c off (opd T x)with
     |some c=>some ⟨none,.undef,[(id,.box c)]⟩
     |none=>none)
    |_=>none)
   |.aptr id i w off=>
    (match look id with
    |some (.box (.row τ xs))=>rK r id τ xs i w off (opd T x)
    |_=>none)
   |.tptr τ n k=>
    (match look k with
    |some (.tailp τ' m _)=>
     if τ'=τ then
      (match arg τ (opd T x)with
      |some v=>if(aa (opd T x)).all ng&&(ib (aa (opd T x)) r.size&&Nat.beq r.size (ag τ))then some ⟨some (n=m),.undef,[(k,.tailp τ m v)]⟩else none
      |none=>none)
     else none
    |_=>none)
   |_=>none))
  |none=>none)
 |.nilCheck x=>
  (match opd T x with
  |.ptr id off=>some (.pure (.ptr id off))
  |.cptr c=>some (.pure (.cptr c))
  |.aptr id i w off=>some (.pure (.aptr id i w off))
  |.fn f cs=>some (.pure (.fn f cs))
  |.pt n x=>some ⟨some (x.isSome=true),.cptr (.st n (x.getD (dfl (.st n)))),[]⟩
  |_=>none)
 |.binOp op t x y _=>
  (match opd T x,opd T y with
  |.int k a,.int k' b=>if k=k' then AN op k a b else none
  |.str a,.str b=>AO op a b
  |.bool a,.bool b=>(match bE C.tbl t with|some ⟨.bool,_,_,_,_⟩=>w5 op a b|_=>none)
  |.pt _ a,.nilp=>
   (match bE C.tbl t with
   |some ⟨.ptr _,_,_,_,_⟩=>(match op with|.eql=>some (.pure (.bool a.isNone))|.neq=>some (.pure (.bool a.isSome))|_=>none)
   |_=>none)
  |.iface _ _,.nilif=>
   (match bE C.tbl t with
   |some ⟨.iface,_,_,_,_⟩=>(match op with|.eql=>some (.pure (.bool false))|.neq=>some (.pure (.bool true))|_=>none)
   |_=>none)
  |.nilif,.nilif=>
   (match bE C.tbl t,y with
   |some ⟨.iface,_,_,_,_⟩,.const _=>(match op with|.eql=>some (.pure (.bool true))|.neq=>some (.pure (.bool false))|_=>none)
   |_,_=>none)
  |x,y=>(match ox x,ox y with|some cs,some ds=>AT C op t cs ds|_,_=>none))
 |.unOp op _ x=>
  (match op,opd T x with
  |.not,.bool b=>some (.pure (.bool (!b)))
  |.neg,.int k n=>some ⟨some (inR k (0-n)),.int k (0-n),[]⟩
  |_,_=>none)
 |.convert s d x=>
  (match bE C.tbl s,bE C.tbl d,opd T x with
  |some _,some ⟨.int k,_,_,_,_⟩,.int _ n=>some ⟨some (inR k n),.int k n,[]⟩
  |some _,some ⟨.str,_,_,_,_⟩,.str s=>some (.pure (.str s))
  |_,_,x=>L2 C s d x)
 |.fieldAddr s x f=>
  (match bE C.tbl s with
  |some r=>
   (match rh r f,opd T x with
   |some (off,_),.ptr id o=>some (.pure (.ptr id (o+off)))
   |some (off,_),.aptr id i w o=>some (.pure (.aptr id i w (o+off)))
   |some (off,t),.cptr c=>
    (match off,c,bE C.tbl t with
    |off,.st n x,some ⟨_,_,_,_,some (.st m)⟩=>
     (match lJ n off x with
     |some (.st m' y)=>if m'=m then some (.pure (.cptr (.st m' y)))else none
     |_=>(match nq (aa (.st n x)) off with|some (c::r)=>some (.pure (.cptr (.agg (c::r))))|_=>none))
    |off,c,_=>(match nq (aa c) off with|some (c::r)=>some (.pure (.cptr (.agg (c::r))))|_=>none))
   |_,_=>none)
  |none=>none)
 |.field s x f=>
  (match bE C.tbl s with
  |some r=>
   (match rh r f with
   |some (off,t)=>
    (match bE C.tbl t,opd T x with
    |some rt,.agg cs=>(nr rt (.agg cs) off).map .pure
    |some rt,.st n x=>if Mk r n then(nr rt (.st n x) off).map .pure else none
    |_,_=>none)
   |_=>none)
  |none=>none)
 |.indexAddr t x i=>
  (match bE C.tbl t,opd T x,opd T i with
  |some ⟨.slice e,_,_,_,_⟩,.lst τ xs _,.int _ n=>
   (match bE C.tbl e with
   |some re=>if re.ty=some τ then some ⟨some (0<=n/\n<xs.length),.cptr (inj τ (xs.getD n.toNat (dfl τ))),[]⟩else none
   |none=>none)
  |some ⟨.slice e,_,_,_,_⟩,.arr id m w,.int _ n=>
   (match bE C.tbl e with
   |some re=>if re.size=w then some ⟨some (0<=n/\n<m),.aptr id n.toNat w 0,[]⟩else none
   |none=>none)
  |some ⟨.slice e,_,_,_,_⟩,.lstp τ xs k,.int _ n=>
   (match bE C.tbl e with
   |some re=>if re.ty=some τ then some ⟨some (n=(xs.length:Int)),.tptr τ xs.length k,[]⟩else none
   |none=>none)
  |some ⟨.arr e m,_,_,_,_⟩,.ptr id 0,.int _ n=>
   (match bE C.tbl e with
   |some re=>some ⟨some (0<=n/\n<m),.aptr id n.toNat re.size 0,[]⟩
   |none=>none)
  |_,_,_=>none)
 |.index t x i=>
  (match bE C.tbl t,opd T x,opd T i with
  |some ⟨.str,_,_,_,_⟩,.str s,.int _ n=>some ⟨some (0<=n/\n<s.length),.int .u8 ((s.getD n.toNat 0).toNat:Int),[]⟩
  |_,_,_=>none)
 |.slice t x lo hi none=>GK C t (opd T x) (bnd T lo) (bnd T hi)
 |.extract x i=>(match opd T x with|.tup vs=>(nth vs i).map .pure|_=>none)
 |.call {callee:=.builtin .len,args,argTypes}=>
  (match args.toList,argTypes.toList with
  |[x],[t]=>lenF C t (opd T x) look
  |_,_=>none)
 |.call {callee:=.builtin .append,args,argTypes}=>
  (match args.toList,argTypes.toList,o.dst with
  |[x,y],[t,t'],some d=>if t ==t' then(match C.pend d with|true=>ri C t d (opd T x) (opd T y) look|false=>w7 C t d (opd T x) (opd T y) look)else(match opd T y with|.str s=>rj C t t' (opd T x) s look|_=>none)
  |_,_,_=>none)
 |.call {callee:=.builtin .max,args,..}=>
  (match args.toList with
  |[x,y]=>(match opd T x,opd T y with|.int k a,.int k' b=>if k=k' then some (.pure (.int k (max a b)))else none|_,_=>none)
  |_=>none)
 |.call {callee:=.builtin .min,args,..}=>
  (match args.toList with
  |[x,y]=>(match opd T x,opd T y with|.int k a,.int k' b=>if k=k' then some (.pure (.int k (min a b)))else none|_,_=>none)
  |_=>none)
 |.call {callee:=.builtin _,..}=>none
 |.call _=>(match gI C o T look with|some r=>some (fY (lL C o) look r.eff)|none=>none)
 |.makeFunc (.func f) first caps=>if first.isEmpty then some (.pure (.fn f (caps.toList.map (opd T))))else none
 |.makeInterface t x=>(match bE C.tbl t with|some r=>(match r.ti with|.iface=>none|_=>some (.pure (.iface t (opd T x))))|none=>none)
 |.typeAssert x _ t true=>
  (match opd T x,bE C.tbl t with
  |.iface t' a,some r=>(match r.ti with|.iface=>none|_=>if t'=t then some (.pure (.tup [a,.bool true]))else none)
  |_,_=>none)
 |.panic x=>(match opd T x with|.iface _ _=>some (.pure .undef)|_=>none)
 |.makeSlice t n c=>
  (match o.dst,bE C.tbl t,opd T n,opd T c with
  |some d,some ⟨.slice e,_,_,_,_⟩,.int .i64 a,.int .i64 b=>
   (match bE C.tbl e,look d with
   |some ⟨_,size,bytes,zero,some τ⟩,none=>
    (match AM τ zero with
    |some z=>
     (match n with
     |.const (.int _ (.ofNat 0))=>some ⟨some (0<=b/\b *bytes<=140737488355328),.lst τ [] (some d),[(d,.tail τ 0)]⟩
     |_=>some ⟨some (0<=a/\a<=b/\b *bytes<=140737488355328),.arr d a.toNat size,[(d,.box (.row τ (List.replicate a.toNat z)))]⟩)
    |none=>none)
   |_,_=>none)
  |_,_,_,_=>none)
 |_=>none
def AU(t:List (Nat×AV))(d:Option Nat)(v:AV):List (Nat×AV):=
 match d with
 |some d=>rH t d v
 |none=>t
def putB:List (Nat×SObj)->List (Nat×SObj)->List (Nat×SObj)
 |b,[]=>b
 |b,(i,o)::r=>putB (ot b i o) r
def St.put(s:St)(d:Option Nat)(e:Eff):St:=⟨AU s.t d e.val,putB s.b e.upd⟩
def rk(ops:List Oper)(i:Nat):Bool:=ops.any fun o=>match o.guard with|some (j,_)=>j ==i|none=>false
def sp(b:Bool)(p q:Prop):Prop:=if b=true then p else q
def Dd:Option Prop->Prop->Prop
 |none,q=>q
 |some p,q=>p/\q
abbrev ic:=List Nat×List Nat
def dv(C:Cfg)(ops:List Oper)(draw:Bool)(kp:AV->St->Prop):List Oper->Nat->St->List ic->(St->List ic->Prop)->Prop
 |[],_,s,fs,k=>k s fs.reverse
 |o::r,i,s,fs,k=>
  let on:Unit->Prop:=fun _=>
   match aQ C o (cx s.t) (aE s.b)with
   |none=>False
   |some e=>
    Dd e.ob
    (match eD C o (cx s.t) (aE s.b)with
    |none=>
     (match rk ops i,e.val with
     |true,.bool b=>
      sp b (dv C ops draw kp r (i+1) (s.put o.dst {e with val:=.bool true}) ((bq C o (cx s.t) (aE s.b),e.upd.map (·.1))::fs) k)
       (dv C ops draw kp r (i+1) (s.put o.dst {e with val:=.bool false}) ((bq C o (cx s.t) (aE s.b),e.upd.map (·.1))::fs) k)
     |true,_=>False
     |false,_=>dv C ops draw kp r (i+1) (s.put o.dst e) ((bq C o (cx s.t) (aE s.b),e.upd.map (·.1))::fs) k)
    |some (b,pv,u)=>
     (match draw||rk ops i with
     |true=>False
     |false=>sp b (kp pv ⟨s.t,putB s.b u⟩) (dv C ops draw kp r (i+1) (s.put o.dst e) ((bq C o (cx s.t) (aE s.b),e.upd.map (·.1))::fs) k)))
  let off:Unit->Prop:=fun _=>dv C ops draw kp r (i+1) ⟨AU s.t o.dst (.tup []),s.b⟩ (([],[])::fs) k
  match o.guard with
  |none=>on ()
  |some (j,want)=>
   match(nth ops j).bind (·.dst)with
   |none=>False
   |some d=>
    match cx s.t d with
    |.bool true=>if want then on ()else off ()
    |.bool false=>if want then off ()else on ()
    |.tup []=>off ()
    |_=>False
def AW(o:Oper):List Nat:=o.op.operands.toList.filterMap fun|.tmp t=>some t|_=>none
def kO(ops:List Oper)(o:Oper):List Nat:=
 AW o++(match o.guard with|some (g,_)=>((nth ops g).bind (·.dst)).toList|none=>[])
def DX(a b:List Nat):Bool:=a.all fun x=>!b.contains x
def w8(ops:List Oper)(x y:Oper):Bool:=
 (match x.dst with|some d=>!(kO ops y).contains d&&!(y.dst ==some d)|none=>true)&&
 (match y.dst with|some d=>!(kO ops x).contains d|none=>true)
def w9(f g:ic):Bool:=DX f.2 (g.1++g.2)&&DX g.2 f.1
def rL(acc:List Nat)(o:Oper):Nat:=(o.after.toList.filter (Region.binds .any)).foldl (init:=0) fun m e=>m ||| 2 ^ e.on ||| acc.getD e.on 0
def AX(ops:List Oper):List Nat:=ops.foldl (init:=[]) fun acc o=>acc++[rL acc o]
def j7(ops:List Oper)(fs:List ic):Bool:=
 ((List.range ops.length).all fun j=>(List.range j).all fun i=>
  ((AX ops).getD j 0).testBit i||
  (match nth ops i,nth ops j,nth fs i,nth fs j with
   |some x,some y,some f,some g=>w8 ops x y&&w9 f g
   |_,_,_,_=>false))&&
 (ops.zipIdx.all fun(o,j)=>o.after.all fun e=>!Region.binds .any e||Nat.blt e.on j)
def fb(A:List Nat)(s:St):Bool:=(s.t.all fun x=>DX (ids x.2) A)&&(s.b.all fun x=>DX (AP x.2) A)
def xP(ops:List Oper):List Nat:=
 ops.filterMap fun o=>match o.op with
  |.alloc _|.box ..|.buildSlice ..|.makeSlice ..|.call {callee:=.builtin .append,..}=>o.dst
  |_=>none
def De(ops:List Oper):List Nat:=
 ops.filterMap fun o=>match o.op with
  |.call {callee:=.value _,..}=>o.dst
  |_=>none
def GL(ds cs:List Nat)(i:Nat):Bool:=ds.contains i||(Nat.ble 1000 i&&cs.contains (i%1000))
def enter(ops:List Oper)(s:St):Option St:=
 let A:=(s.b.map (·.1)).filter fun i=>GL (xP ops) (De ops) i&&!cU i
 if A.isEmpty then some s else
  let s':St:=⟨s.t.filter fun x=>!A.contains x.1,s.b.filter fun x=>!A.contains x.1⟩
  if fb A s' then some s' else none
mutual
def pubV(id:Nat)(c:AV):AV->AV
 |.ptr i o=>(match o with|0=>if i=id then .cptr c else .ptr i 0|o+1=>.ptr i (o+1))
 |.arr i n w=>if i=id then(match c with|.row τ xs=>if w=ag τ then .lst τ (xs.take n) none else .arr i n w|_=>.arr i n w)else .arr i n w
 |.cptr d=>.cptr (pubV id c d)
 |.agg cs=>.agg (pubVs id c cs)
 |.tup cs=>.tup (pubVs id c cs)
 |.fn f cs=>.fn f (pubVs id c cs)
 |.iface t a=>.iface t (pubV id c a)
 |a=>a
def pubVs(id:Nat)(c:AV):List AV->List AV
 |[]=>[]
 |a::r=>pubV id c a::pubVs id c r
end
def GM(id:Nat)(c:AV):SObj->SObj
 |.box d=>.box (pubV id c d)
 |o=>o
def Ln(id:Nat)(s:St):Option St:=
 match aE s.b id with
 |some (.box c)=>
  let s':St:=⟨s.t.map fun x=>(x.1,pubV id c x.2),(s.b.filter fun x=>!(x.1 ==id)).map fun x=>(x.1,GM id c x.2)⟩
  if fb [id] s'&&DX (ids c) [id]&&!cU id then some s' else none
 |_=>none
def rM:List Nat->St->Option St
 |[],s=>some s
 |i::r,s=>(match Ln i s with|some s=>rM r s|none=>none)
mutual
def lensV(k:Nat):AV->List Nat
 |.lstp _ xs j=>(match Nat.beq j k with|true=>[xs.length]|false=>[])
 |.cptr d=>lensV k d
 |.agg cs=>lensVs k cs
 |.tup cs=>lensVs k cs
 |.fn _ cs=>lensVs k cs
 |.iface _ a=>lensV k a
 |_=>[]
def lensVs(k:Nat):List AV->List Nat
 |[]=>[]
 |a::r=>lensV k a++lensVs k r
end
mutual
def finV(k:Nat)(τ:Ty)(x:den τ):AV->AV
 |.lstp σ xs j=>(match Nat.beq j k with|true=>(match lI τ σ [x]with|some l=>.lst σ (xs++l) (some k)|none=>.undef)|false=>.lstp σ xs j)
 |.tptr σ n j=>(match Nat.beq j k with|true=>.undef|false=>.tptr σ n j)
 |.cptr d=>.cptr (finV k τ x d)
 |.agg cs=>.agg (finVs k τ x cs)
 |.tup cs=>.tup (finVs k τ x cs)
 |.fn f cs=>.fn f (finVs k τ x cs)
 |.iface t a=>.iface t (finV k τ x a)
 |a=>a
def finVs(k:Nat)(τ:Ty)(x:den τ):List AV->List AV
 |[]=>[]
 |a::r=>finV k τ x a::finVs k τ x r
end
def Ml(k:Nat):SObj->List Nat
 |.box c=>lensV k c
 |_=>[]
def GN(k:Nat)(τ:Ty)(x:den τ):SObj->SObj
 |.box c=>.box (finV k τ x c)
 |o=>o
def AY(n:Nat):List Nat->Prop->Prop
 |[],q=>q
 |m::r,q=>m=n/\AY n r q
def GO(k:Nat)(s:St)(Q:St->Prop):Prop:=
 match aE s.b k with
 |some (.tailp τ n x)=>
  AY n (s.t.flatMap (fun y=>lensV k y.2)++s.b.flatMap (fun y=>Ml k y.2))
   (Q ⟨s.t.map fun y=>(y.1,finV k τ x y.2),(ot s.b k (.tail τ (n+1))).map fun y=>(y.1,GN k τ x y.2)⟩)
 |_=>Q s
def DY:List Nat->St->(St->Prop)->Prop
 |[],s,Q=>Q s
 |k::r,s,Q=>GO k s fun s=>DY r s Q
def wa:List (Nat×SObj)->List Nat
 |[]=>[]
 |(k,.tailp _ _ _)::r=>k::wa r
 |_::r=>wa r
def finA(s:St)(Q:St->Prop):Prop:=DY (wa s.b) s Q
def LeF(G:List Nat):AV->AV->Prop
 |_,.undef=>True
 |.int k n,.int k' n'=>if k=k' then n=n' else False
 |.bool b,.bool b'=>b=b'
 |.str s,.str s'=>s=s'
 |.lst τ xs o,.lst σ ys p=>(match lI τ σ xs with|some xs=>xs=ys|none=>False)/\(if p=none∨p=o then True else False)
 |.nils,.lst _ ys p=>(match p with|none=>True|some k=>if G.contains k=true then True else False)/\ys=[]
 |.nils,.nils=>True
 |.nilp,.nilp=>True
 |.ptr i o,.ptr j p=>if i=j/\o=p then True else False
 |.st n x,.st m y=>(match oj n m x with|some x=>x=y|none=>False)
 |.row τ xs,.row σ ys=>(match lI τ σ xs with|some xs=>xs=ys|none=>False)
 |.arr i n w,.arr j m v=>if i=j/\w=v then n=m else False
 |.aptr i n w o,.aptr j m v p=>if i=j/\w=v/\o=p then n=m else False
 |.bptr i,.bptr j=>if i=j then True else False
 |.pt n x,.pt m y=>(match uT n m x with|some x=>x=y|none=>False)
 |.nilp,.pt _ y=>y=none
 |.nilif,.nilif=>True
 |_,_=>False
def xQ(G:List Nat):List AV->List AV->Prop
 |[],[]=>True
 |a::r,b::s=>LeF G a b/\xQ G r s
 |_,_=>False
def xR:AV->AV->Prop
 |.agg _,.undef=>False
 |.st _ _,.undef=>False
 |.row _ _,.undef=>False
 |_,_=>True
mutual
def LeV(G:List Nat):AV->AV->Prop
 |.cptr c,.cptr d=>xR c d/\LeV G c d
 |.cptr (.st n x),.pt m y=>(match oj n m x with|some x=>some x=y|none=>False)
 |.iface t a,.iface u b=>(if t=u then True else False)/\LeV G a b
 |.agg cs,.st m y=>xQ G cs (cells (.st m) y)
 |.st n x,.agg ds=>xQ G (cells (.st n) x) ds
 |.agg cs,.agg ds=>LeL G cs ds
 |.tup cs,.tup ds=>LeL G cs ds
 |.fn f cs,.fn g ds=>(if f=g then True else False)/\LeL G cs ds
 |a,b=>LeF G a b
def LeL(G:List Nat):List AV->List AV->Prop
 |[],[]=>True
 |a::r,b::s=>LeV G a b/\LeL G r s
 |_,_=>False
end
def LeT(G:List Nat)(s:St):List (Nat×AV)->Prop
 |[]=>True
 |(i,a)::r=>LeV G (cx s.t i) a/\LeT G s r
def LeB(G:List Nat)(s:St):List (Nat×SObj)->Prop
 |[]=>True
 |(i,.box d)::r=>(match aE s.b i with|some (.box c)=>xR c d/\LeV G c d|_=>False)/\LeB G s r
 |(i,.tail τ n)::r=>(match aE s.b i with|some (.tail σ m)=>(if σ=τ then m=n else False)|none=>n=0|_=>False)/\LeB G s r
 |(i,.bld t u l)::r=>(match aE s.b i with|some (.bld t' u' l')=>(if t'=t/\u'=u then l'=l else False)|_=>False)/\LeB G s r
 |(_,.tailp _ _ _)::_=>False
def au{α:Type}(l:List (Nat×α)):List Nat:=l.map (·.1)
def fZ(s s':St):List Nat:=(au s'.b).filter fun i=>(aE s.b i).isNone
def LeS(s s':St):Prop:=
 (if fb ((au s.b).filter fun i=>!(au s'.b).contains i) s'&&((au s.b).filter fun i=>!(au s'.b).contains i).all (fun i=>!cU i)then True else False)/\LeT (fZ s s') s s'.t/\LeB (fZ s s') s s'.b
def chk(b:Bool)(k:Prop):Prop:=match b with|true=>k|false=>False
def cF(G:List Nat)(a b:AV)(k:Prop):Prop:=
 match a,b with
 |_,.undef=>k
 |.int j n,.int j' n'=>chk (decide (j=j')) (n=n'/\k)
 |.bool b,.bool b'=>b=b'/\k
 |.str s,.str s'=>s=s'/\k
 |.lst τ xs o,.lst σ ys p=>(match lI τ σ xs with|some xs=>chk (decide (p=none∨p=o)) (xs=ys/\k)|none=>False)
 |.nils,.lst _ ys p=>(match p with|none=>ys=[]/\k|some i=>chk (G.contains i) (ys=[]/\k))
 |.nils,.nils=>k
 |.nilp,.nilp=>k
 |.ptr i o,.ptr j p=>chk (decide (i=j/\o=p)) k
 |.st n x,.st m y=>(match oj n m x with|some x=>x=y/\k|none=>False)
 |.row τ xs,.row σ ys=>(match lI τ σ xs with|some xs=>xs=ys/\k|none=>False)
 |.arr i n w,.arr j m v=>chk (decide (i=j/\w=v)) (n=m/\k)
 |.aptr i n w o,.aptr j m v p=>chk (decide (i=j/\w=v/\o=p)) (n=m/\k)
 |.bptr i,.bptr j=>chk (decide (i=j)) k
 |.pt n x,.pt m y=>(match uT n m x with|some x=>x=y/\k|none=>False)
 |.nilp,.pt _ y=>y=none/\k
 |.nilif,.nilif=>k
 |_,_=>False
def cFs(G:List Nat):List AV->List AV->Prop->Prop
 |[],[],k=>k
 |a::r,b::s,k=>cF G a b (cFs G r s k)
 |_,_,_=>False
def wb:AV->AV->Bool
 |.agg _,.undef=>false
 |.st _ _,.undef=>false
 |.row _ _,.undef=>false
 |_,_=>true
mutual
def cV(G:List Nat):AV->AV->Prop->Prop
 |.cptr c,.cptr d,k=>chk (wb c d) (cV G c d k)
 |.cptr (.st n x),.pt m y,k=>(match oj n m x with|some x=>some x=y/\k|none=>False)
 |.iface t a,.iface u b,k=>chk (Nat.beq t u) (cV G a b k)
 |.agg cs,.st m y,k=>cFs G cs (cells (.st m) y) k
 |.st n x,.agg ds,k=>cFs G (cells (.st n) x) ds k
 |.agg cs,.agg ds,k=>cL G cs ds k
 |.tup cs,.tup ds,k=>cL G cs ds k
 |.fn f cs,.fn g ds,k=>chk (Nat.beq f g) (cL G cs ds k)
 |a,b,k=>cF G a b k
def cL(G:List Nat):List AV->List AV->Prop->Prop
 |[],[],k=>k
 |a::r,b::s,k=>cV G a b (cL G r s k)
 |_,_,_=>False
end
def cT(G:List Nat)(s:St):List (Nat×AV)->Prop->Prop
 |[],k=>k
 |(i,a)::r,k=>cV G (cx s.t i) a (cT G s r k)
def cB(G:List Nat)(s:St):List (Nat×SObj)->Prop
 |[]=>True
 |(i,.box d)::r=>(match aE s.b i with|some (.box c)=>chk (wb c d) (cV G c d (cB G s r))|_=>False)
 |(i,.tail τ n)::r=>
  (match aE s.b i with
  |some (.tail σ m)=>chk (decide (σ=τ)) (m=n/\cB G s r)
  |none=>n=0/\cB G s r
  |_=>False)
 |(i,.bld t u l)::r=>(match aE s.b i with|some (.bld t' u' l')=>chk (decide (t'=t/\u'=u)) (l'=l/\cB G s r)|_=>False)
 |(_,.tailp _ _ _)::_=>False
def cS(s s':St):Prop:=
 chk (fb ((au s.b).filter fun i=>!(au s'.b).contains i) s'&&((au s.b).filter fun i=>!(au s'.b).contains i).all (fun i=>!cU i))
  (cT (fZ s s') s s'.t (cB (fZ s s') s s'.b))
inductive SX where
 |normal|exit (id:Nat)|ret|pan (v:AV)
structure LA where
 ι:Type
 pre:ι->Prop
 t:ι->List (Nat×AV)
 b:ι->List (Nat×SObj)
 m:ι->Nat
structure An where
 l:List (Nat×(St->LA))
 p:List (Nat×List Nat)
 j:List (Nat×(St->List (Nat×AV)×List (Nat×SObj)))
def GP:List (Nat×(St->List (Nat×AV)×List (Nat×SObj)))->Nat->Option (St->List (Nat×AV)×List (Nat×SObj))
 |[],_=>none
 |(j,x)::r,i=>if j ==i then some x else GP r i
def L4:List (Nat×List Nat)->Nat->List Nat
 |[],_=>[]
 |(j,x)::r,i=>if j ==i then x else L4 r i
def dI:Code->List Nat
 |.region _ ops _=>ops.toList.filterMap (·.dst)
 |.seq a b=>dI a++dI b
 |.cond _ a b=>dI a++dI b
 |.block _ c|.loop c|.scope c=>dI c
 |_=>[]
def kP(D:List Nat)(s:St)(ts:List (Nat×AV))(bs:List (Nat×SObj)):St:=
 ⟨ts++s.t.filter fun x=>!D.contains x.1&&!(keysL ts).contains x.1,bs++s.b.filter fun x=>!(GL D D x.1&&!cU x.1)&&!(keysL bs).contains x.1⟩
where keysL {α:Type} (l:List (Nat×α)):List Nat:=l.map (·.1)
def eT:Code->Option Nat
 |.region id _ _=>some id
 |.seq a b=>(eT a).or (eT b)
 |.cond _ a b=>(eT a).or (eT b)
 |.block _ c|.loop c|.scope c=>eT c
 |_=>none
def L5(l:List (Nat×(St->LA)))(i:Nat):Option (St->LA):=
 match l with
 |[]=>none
 |(j,a)::r=>if j ==i then some a else L5 r i
mutual
def forceV:AV->(AV->Prop)->Prop
 |.undef,k=>k .undef
 |.int κ n,k=>k (.int κ n)
 |.bool b,k=>k (.bool b)
 |.str s,k=>k (.str s)
 |.lst τ xs none,k=>k (.lst τ xs none)
 |.lst τ xs (some i),k=>k (.lst τ xs (some i))
 |.nils,k=>k .nils
 |.ptr i o,k=>k (.ptr i o)
 |.cptr c,k=>forceV c fun c=>k (.cptr c)
 |.nilp,k=>k .nilp
 |.st n x,k=>k (.st n x)
 |.agg cs,k=>forceL cs fun cs=>k (.agg cs)
 |.tup cs,k=>forceL cs fun cs=>k (.tup cs)
 |.fn f cs,k=>forceL cs fun cs=>k (.fn f cs)
 |.row τ xs,k=>k (.row τ xs)
 |.arr i n w,k=>k (.arr i n w)
 |.aptr i n w o,k=>k (.aptr i n w o)
 |.bptr i,k=>k (.bptr i)
 |.iface t a,k=>forceV a fun a=>k (.iface t a)
 |.nilif,k=>k .nilif
 |.pt n x,k=>k (.pt n x)
 |.lstp τ xs i,k=>k (.lstp τ xs i)
 |.tptr τ n i,k=>k (.tptr τ n i)
def forceL:List AV->(List AV->Prop)->Prop
 |[],k=>k []
 |a::r,k=>forceV a fun a=>forceL r fun r=>k (a::r)
end
def wc:List (Nat×AV)->(List (Nat×AV)->Prop)->Prop
 |[],k=>k []
 |(i,a)::r,k=>forceV a fun a=>wc r fun r=>k ((i,a)::r)
def jU:List (Nat×SObj)->(List (Nat×SObj)->Prop)->Prop
 |[],k=>k []
 |(i,.box c)::r,k=>forceV c fun c=>jU r fun r=>k ((i,.box c)::r)
 |(i,.tail τ n)::r,k=>jU r fun r=>k ((i,.tail τ n)::r)
 |(i,.bld t u l)::r,k=>jU r fun r=>k ((i,.bld t u l)::r)
 |(i,.tailp τ n x)::r,k=>jU r fun r=>k ((i,.tailp τ n x)::r)
def j8(s:St)(k:St->Prop):Prop:=wc s.t fun t=>jU s.b fun b=>k ⟨t,b⟩
def Df:List Oper->List Nat->List Oper->List Nat
 |_,_,[]=>[]
 |ops,w,o::r=>((kO ops o).filter fun t=>!w.contains t)++Df ops (o.dst.toList++w) r
def jE:Code->List Nat
 |.region _ ops _=>Df ops.toList [] ops.toList
 |.seq a b=>jE a++jE b
 |.cond (.tmp t) a b=>t::(jE a++jE b)
 |.cond _ a b=>jE a++jE b
 |.block _ c|.loop c|.scope c=>jE c
 |_=>[]
def Lo:ResultVar->Nat
 |.tmp t=>t
 |.cell a _=>a
def Lp(fn:Func)(c:Code):List Nat:=(jE c++fn.results.toList.map Lo).eraseDups
def trim(keep:List Nat)(s:St):St:=⟨s.t.filter fun x=>keep.contains x.1,s.b⟩
def jF:List Nat->(List Nat->Prop)->Prop
 |[],k=>k []
 |0::r,k=>jF r fun r=>k (0::r)
 |(n+1)::r,k=>jF r fun r=>k ((n+1)::r)
def JJ(c:Operand)(v:Bool)(s:St):St:=
 match c with
 |.tmp t=>⟨rH s.t t (.bool v),s.b⟩
 |_=>s
def rn(C:Cfg)(keep:List Nat)(ops:Array Oper)(draw:Bool)(s:St)(Q:SX->St->Prop):Prop:=
 dv C ops.toList draw (fun v s=>j8 s fun s=>forceV v fun v=>Q (.pan v) s) ops.toList 0 s [] fun s' fs=>finA s' fun s'=>j8 (trim keep s') fun s'=>
  if draw then(if j7 ops.toList fs then Q .normal s' else False)else Q .normal s'
def swp(C:Cfg)(keep:List Nat)(ann:An):Code->St->(SX->St->Prop)->Prop
 |.skip,s,Q=>Q .normal s
 |.seq a b,s,Q=>
   match(eT b).bind fun r=>GP ann.j (100000+r)with
   |none=>swp C keep ann a s fun
    |.normal,s'=>swp C keep ann b s' Q
    |e,s'=>Q e s'
   |some J=>swp C keep ann a s (fun x s'=>match x with|.normal=>cS s' (kP (dI a) s (J s).1 (J s).2)|e=>Q e s')/\
     j8 (kP (dI a) s (J s).1 (J s).2) fun i=>swp C keep ann b i Q
 |.cond c a b,s,Q=>
  match opd (cx s.t) c with
  |.bool b'=>sp b' (swp C keep ann a (JJ c true s) Q) (swp C keep ann b (JJ c false s) Q)
  |_=>False
 |.block id c,s,Q=>swp C keep ann c s fun
  |.exit j,s'=>if j ==id then Q .normal s' else Q (.exit j) s'
  |e,s'=>Q e s'
 |.exit id,s,Q=>Q (.exit id) s
 |.scope c,s,Q=>swp C keep ann c s Q
 |.label _,s,Q=>Q .normal s
 |.ret,s,Q=>Q .ret s
 |.region id ops draw,s,Q=>
  match rM (L4 ann.p id) s with
  |none=>False
  |some s=>
   match enter ops.toList s with
   |none=>False
   |some s=>
    match GP ann.j id with
    |none=>rn C keep ops draw s Q
    |some J=>rn C keep ops draw s (fun x s'=>match x with|.normal=>cS s' (kP (dI (.region id ops draw)) s (J s).1 (J s).2)|e=>Q e s')/\
      j8 (kP (dI (.region id ops draw)) s (J s).1 (J s).2) fun i=>Q .normal i
 |.loop c,s,Q=>
  match((eT c).bind (L5 ann.l)).map (fun A=>A s)with
  |none=>False
  |some A=>
   (∃x,A.pre x/\j8 (kP (dI c) s (A.t x) (A.b x)) fun i=>cS s i)/\
   ∀x,A.pre x->j8 (kP (dI c) s (A.t x) (A.b x)) fun i=>swp C keep ann c i fun
    |.normal,s'=>∃y,A.pre y/\A.m y<A.m x/\j8 (kP (dI c) s (A.t y) (A.b y)) fun i=>cS s' i
    |e,s'=>Q e s'
 |_,_,_=>False
def oy(tbl:List (Nat×TR))(s:St):List ResultVar->Option (List AV)
 |[]=>some []
 |.tmp t::r=>(match oy tbl s r with|some l=>some (cx s.t t::l)|none=>none)
 |.cell a t::r=>
  (match cx s.t a,bE tbl t with
   |.ptr id off,some rt=>
    (match aE s.b id with
    |some (.box c)=>(match nr rt c off,oy tbl s r with|some v,some l=>some (v::l)|_,_=>none)
    |_=>none)
   |_,_=>none)
def fm:Nat->List AV->List (Nat×AV)
 |_,[]=>[]
 |i,a::r=>(i,a)::fm (i+1) r
def uU(res:Option (List AV))(s:St)(val:AV)(b:List (Nat×SObj)):Prop:=
 match res with
 |some [a]=>cS ⟨[(0,a)],s.b⟩ ⟨[(0,val)],b⟩
 |some l=>(match val with|.tup rs=>if ib l rs.length then cS ⟨fm 0 l,s.b⟩ ⟨fm 0 rs,b⟩else False|_=>False)
 |none=>False
def dF(n:Nat):Code->Bool
 |.region _ ops _=>ops.toList.all fun o=>match o.dst with|some d=>Nat.blt d n|none=>true
 |.seq a b=>dF n a&&dF n b
 |.cond _ a b=>dF n a&&dF n b
 |.block _ c=>dF n c
 |.loop c=>dF n c
 |.scope c=>dF n c
 |_=>true
def fwp(C:Cfg)(ann:An)(fn:Func)(args:List AV)(S:List (Nat×SObj))(A:Ans):Prop:=
 match fn.body with
 |none=>False
 |some c=>
  match dF fn.ntmps c&&ou args fn.ntmps&&(au S).all cU with
  |false=>False
  |true=>jF (Lp fn c) fun keep=>j8 ⟨fm 0 args,S⟩ fun i=>swp C keep ann c i fun
   |.exit _,_=>False
   |.pan v,s=>(match A.pan with|some (b,pv,u)=>b=true/\cS ⟨[(0,v)],s.b⟩ ⟨[(0,pv)],putB S u⟩|none=>False)
   |_,s=>(match A.pan with|some (b,_,_)=>b=false|none=>True)/\uU (oy C.tbl s fn.results.toList) s A.val (putB S A.upd)
end Go.AL
end
section
namespace Go.AL
inductive CObj where
 |box (b off len:Nat)
 |tail (n:Nat) (base:Option Nat) (cap:Nat)
 |bld (b:Nat) (g:Option Nat)
structure Om where
 e:Nat->Option CObj
 w:World
 pub:Nat->Nat->Prop
def eK:Option Nat->Option Addr
 |none=>none
 |some b=>some ⟨b,0,none⟩
def cm:Nat:=9223372036854775807
def ie(Ω:Om)(o:Option Nat)(n:Nat)(v:Value):Prop:=
 ∀id,o=some id->∃m base cap,Ω.e id=some (.tail m base cap)/\n<=m/\(n=m->v=.slice (eK base) n cap)
def rq(Ω:Om)(τ:Ty)(n k:Nat)(p:Option Addr):Prop:=
 ∃m base cap,Ω.e k=some (.tail m base cap)/\n+1<=m/\(n+1=m->∃b,base=some b/\p=some ⟨b,n *ag τ,none⟩)
inductive V(Ω:Om):AV->Value->Prop
 |undef (v:Value):V Ω .undef v
 |int (k:IntKind) (n:Int):k.min<=n->n<=k.max->V Ω (.int k n) (.int k n)
 |bool (b:Bool):V Ω (.bool b) (.bool b)
 |str (s:Str):s.length<=cm->V Ω (.str s) (.string ⟨s.toArray⟩)
 |lstNil (τ:Ty) (o:Option Nat):ie Ω o 0 (.slice none 0 0)->V Ω (.lst τ [] o) (.slice none 0 0)
 |lst (τ:Ty) (xs:List (den τ)) (o:Option Nat) (b off cap:Nat) (vals:Nat->Nat->Value) :
   xs.length<=cap->cap<=cm->ie Ω o xs.length (.slice (some ⟨b,off,none⟩) xs.length cap)->
   (∀(i:Nat)(x:den τ),xs[i]?=some x->∀(j:Nat)(c:AV),(cells τ x)[j]?=some c->
    Ω.pub b (off+(i *ag τ+j))/\Ω.w.cell? ⟨b,off+(i *ag τ+j),none⟩=some (vals i j))->
   (∀(i:Nat)(x:den τ),xs[i]?=some x->∀(j:Nat)(c:AV),(cells τ x)[j]?=some c->V Ω c (vals i j))->
   V Ω (.lst τ xs o) (.slice (some ⟨b,off,none⟩) xs.length cap)
 |lstVoid (τ:Ty) (a:Addr):V Ω (.lst τ [] none) (.slice (some a) 0 0)
 |nils:V Ω .nils (.slice none 0 0)
 |ptr (id off b o len:Nat):Ω.e id=some (.box b o len)->V Ω (.ptr id off) (.pointer (some ⟨b,o+off,none⟩))
 |cptr (c:AV) (b off:Nat) (vals:Nat->Value) :
   (∀(j:Nat)(c':AV),(aa c)[j]?=some c'->Ω.pub b (off+j)/\Ω.w.cell? ⟨b,off+j,none⟩=some (vals j))->
   (∀(j:Nat)(c':AV),(aa c)[j]?=some c'->V Ω c' (vals j))->
   V Ω (.cptr c) (.pointer (some ⟨b,off,none⟩))
 |nilp:V Ω .nilp (.pointer none)
 |ptNone (n:SN):V Ω (.pt n none) (.pointer none)
 |ptSome (n:SN) (x:SD n) (v:Value):V Ω (.cptr (.st n x)) v->V Ω (.pt n (some x)) v
 |arr (id n w b len cap:Nat) (a:Option Addr):Ω.e id=some (.box b 0 len)->n *w<=len->n<=cap->cap<=cm->(a=some ⟨b,0,none⟩∨a=none/\n=0/\cap=0)->
   V Ω (.arr id n w) (.slice a n cap)
 |aptr (id i w off b o len:Nat):Ω.e id=some (.box b o len)->V Ω (.aptr id i w off) (.pointer (some ⟨b,o+(i *w+off),none⟩))
 |bptr (id b:Nat) (g:Option Nat):Ω.e id=some (.bld b g)->V Ω (.bptr id) (.pointer (some ⟨b,0,none⟩))
 |iface (t:Nat) (a:AV) (v:Value):V Ω a v->V Ω (.iface t a) (.iface t v)
 |nilif:V Ω .nilif .nilIface
 |lstp (τ:Ty) (xs:List (den τ)) (k b off cap:Nat) (vals:Nat->Nat->Value) :
   xs.length+1<=cap->cap<=cm->ie Ω (some k) (xs.length+1) (.slice (some ⟨b,off,none⟩) (xs.length+1) cap)->
   (∀(i:Nat)(x:den τ),xs[i]?=some x->∀(j:Nat)(c:AV),(cells τ x)[j]?=some c->
    Ω.pub b (off+(i *ag τ+j))/\Ω.w.cell? ⟨b,off+(i *ag τ+j),none⟩=some (vals i j))->
   (∀(i:Nat)(x:den τ),xs[i]?=some x->∀(j:Nat)(c:AV),(cells τ x)[j]?=some c->V Ω c (vals i j))->
   V Ω (.lstp τ xs k) (.slice (some ⟨b,off,none⟩) (xs.length+1) cap)
 |tptr (τ:Ty) (n k:Nat) (p:Option Addr):rq Ω τ n k p->V Ω (.tptr τ n k) (.pointer p)
 |st (n:SN) (x:SD n) (v:Value):V Ω (.agg (cells (.st n) x)) v->V Ω (.st n x) v
 |agg (cs:List AV) (vs:List Value):cs.length=vs.length->(∀(j:Nat)(c:AV)(v:Value),cs[j]?=some c->vs[j]?=some v->V Ω c v)->
   V Ω (.agg cs) (.agg vs.toArray)
 |tup (cs:List AV) (vs:List Value):cs.length=vs.length->(∀(j:Nat)(c:AV)(v:Value),cs[j]?=some c->vs[j]?=some v->V Ω c v)->
   V Ω (.tup cs) (.tuple vs.toArray)
 |fn (f:Nat) (cs:List AV) (vs:List Value):cs.length=vs.length->(∀(j:Nat)(c:AV)(v:Value),cs[j]?=some c->vs[j]?=some v->V Ω c v)->
   V Ω (.fn f cs) (.func (.func f) #[] vs.toArray)
def VL(Ω:Om)(cs:List AV)(vs:List Value):Prop:=cs.length=vs.length/\∀(j:Nat)(c:AV)(v:Value),cs[j]?=some c->vs[j]?=some v->V Ω c v
def CLe:CObj->CObj->Prop
 |.box b o l,.box b' o' l'=>b=b'/\o=o'/\l=l'
 |.tail n base cap,.tail n' base' cap'=>n<=n'/\(n=n'->base=base'/\cap=cap')
 |.bld b _,.bld b' _=>b=b'
 |_,_=>False
theorem CLe.refl(c:CObj):CLe c c:=by cases c<;>simp[CLe]
theorem CLe.box{b o l:Nat}{c:CObj}(h:CLe (.box b o l) c):c=.box b o l:=by cases c<;>simp[CLe]at h;obtain⟨rfl,rfl,rfl⟩:=h;rfl
theorem CLe.bld{b:Nat}{g:Option Nat}{c:CObj}(h:CLe (.bld b g) c):∃g',c=.bld b g':=by cases c<;>simp[CLe]at h;subst h;exact⟨_,rfl⟩
theorem CLe.trans{a b c:CObj}(h:CLe a b)(k:CLe b c):CLe a c:=by
 cases a<;>cases b<;>cases c<;>simp_all [CLe];rename_i n1 b1 c1 n2 b2 c2 n3 b3 c3;obtain⟨h1,h2⟩:=h;obtain⟨k1,k2⟩:=k;refine⟨by omega,fun e=>?_⟩;have e1:n1=n2:=by omega
 have e2:n2=n3:=by omega
 obtain⟨h3,h4⟩:=h2 e1;obtain⟨k3,k4⟩:=k2 e2;exact⟨h3.trans k3,h4.trans k4⟩
structure Ext(Ω Ω':Om):Prop where
 e:∀id c,Ω.e id=some c->∃c',Ω'.e id=some c'/\CLe c c'
 pub:∀b o,Ω.pub b o->Ω'.pub b o
 cell:∀b o,Ω.pub b o->Ω'.w.cell? ⟨b,o,none⟩=Ω.w.cell? ⟨b,o,none⟩
theorem Ext.refl(Ω:Om):Ext Ω Ω:=⟨fun _ c h=>⟨c,h,CLe.refl c⟩,fun _ _ h=>h,fun _ _ _=>rfl⟩
theorem ie.ext{Ω Ω':Om}(h:Ext Ω Ω'){o:Option Nat}{n:Nat}{v:Value}(t:ie Ω o n v):ie Ω' o n v:=by
 intro id hid;obtain⟨m,base,cap,he,hle,hv⟩:=t id hid;obtain⟨c',hc',hl⟩:=h.e id _ he
 cases c' with
 |box b o l=>simp[CLe]at hl
 |bld b g=>simp[CLe]at hl
 |tail m' base' cap'=>obtain⟨h1,h2⟩:=hl;refine⟨m',base',cap',hc',by omega,fun e=>?_⟩;obtain⟨e1,e2⟩:=h2 (by omega);rw[hv (by omega),e1,e2]
theorem rq.ext{Ω Ω':Om}(h:Ext Ω Ω'){τ:Ty}{n k:Nat}{p:Option Addr}(t:rq Ω τ n k p):rq Ω' τ n k p:=by
 obtain⟨m,base,cap,he,hle,hv⟩:=t;obtain⟨c',hc',hl⟩:=h.e k _ he
 cases c' with
 |box b o l=>simp[CLe]at hl
 |bld b g=>simp[CLe]at hl
 |tail m' base' cap'=>obtain⟨h1,h2⟩:=hl;refine⟨m',base',cap',hc',by omega,fun e=>?_⟩;obtain⟨e1,e2⟩:=h2 (by omega);rw[<-e1];exact hv (by omega)
theorem V.ext{Ω Ω':Om}(h:Ext Ω Ω'){a:AV}{v:Value}(hv:V Ω a v):V Ω' a v:=by
 induction hv with
 |undef v=>exact .undef v
 |int k n h1 h2=>exact .int k n h1 h2
 |bool b=>exact .bool b
 |str s hs=>exact .str s hs
 |lstNil τ o ht=>exact .lstNil τ o (ht.ext h)
 |lstVoid τ a=>exact .lstVoid τ a
 |lst τ xs o b off cap vals h1 h2 h3 h4 h5 ih=>
  exact .lst τ xs o b off cap vals h1 h2 (h3.ext h)
   (fun i x hx j c hc=>⟨h.pub _ _ (h4 i x hx j c hc).1,(h.cell _ _ (h4 i x hx j c hc).1).trans (h4 i x hx j c hc).2⟩) ih
 |nils=>exact .nils
 |ptr id off b o len he=>obtain⟨c',hc',hl⟩:=h.e id _ he;exact .ptr id off b o len (by rw[hc',hl.box])
 |ptNone n=>exact .ptNone n
 |ptSome n x v _ ih=>exact .ptSome n x v ih
 |arr id n w b len cap a he h1 h2 h3 h4=>obtain⟨c',hc',hl⟩:=h.e id _ he;exact .arr id n w b len cap a (by rw[hc',hl.box]) h1 h2 h3 h4
 |aptr id i w off b o len he=>obtain⟨c',hc',hl⟩:=h.e id _ he;exact .aptr id i w off b o len (by rw[hc',hl.box])
 |bptr id b g he=>obtain⟨c',hc',hl⟩:=h.e id _ he;obtain⟨g',rfl⟩:=hl.bld;exact .bptr id b g' hc'
 |iface t a v _ ih=>exact .iface t a v ih
 |nilif=>exact .nilif
 |lstp τ xs k b off cap vals h1 h2 h3 h4 h5 ih=>
  exact .lstp τ xs k b off cap vals h1 h2 (h3.ext h)
   (fun i x hx j c hc=>⟨h.pub _ _ (h4 i x hx j c hc).1,(h.cell _ _ (h4 i x hx j c hc).1).trans (h4 i x hx j c hc).2⟩) ih
 |tptr τ n k p hp=>exact .tptr τ n k p (hp.ext h)
 |st n x v _ ih=>exact .st n x v ih
 |cptr cs b off vals h1 h2 ih=>exact .cptr cs b off vals (fun j c hc=>⟨h.pub _ _ (h1 j c hc).1,(h.cell _ _ (h1 j c hc).1).trans (h1 j c hc).2⟩) ih
 |nilp=>exact .nilp
 |agg cs vs hl _ ih=>exact .agg cs vs hl ih
 |tup cs vs hl _ ih=>exact .tup cs vs hl ih
 |fn f cs vs hl _ ih=>exact .fn f cs vs hl ih
theorem VL.ext{Ω Ω':Om}(h:Ext Ω Ω'){cs:List AV}{vs:List Value}(hv:VL Ω cs vs):VL Ω' cs vs:=
 ⟨hv.1,fun j c v hc hw=>(hv.2 j c v hc hw).ext h⟩
theorem VL.nil{Ω:Om}:VL Ω [] []:=⟨rfl,fun _ _ _ h=>by simp at h⟩
theorem VL.cons{Ω:Om}{c:AV}{cs:List AV}{v:Value}{vs:List Value}(h:V Ω c v)(hs:VL Ω cs vs):VL Ω (c::cs) (v::vs):=by
 refine⟨by simp[hs.1],fun j d u hd hu=>?_⟩
 cases j with|zero=>simp at hd hu;subst hd hu;exact h|succ j=>simp at hd hu;exact hs.2 j d u hd hu
theorem VL.head{Ω:Om}{c:AV}{cs:List AV}{v:Value}{vs:List Value}(h:VL Ω (c::cs) (v::vs)):V Ω c v:=h.2 0 c v rfl rfl
theorem VL.tail{Ω:Om}{c:AV}{cs:List AV}{v:Value}{vs:List Value}(h:VL Ω (c::cs) (v::vs)):VL Ω cs vs:=
 ⟨by have:=h.1;simp at this;exact this,fun j d u hd hu=>h.2 (j+1) d u (by simpa using hd) (by simpa using hu)⟩
theorem VL.cases{Ω:Om}{cs:List AV}{vs:List Value}(h:VL Ω cs vs) :
  (cs=[]/\vs=[])∨∃c cs' v vs',cs=c::cs'/\vs=v::vs'/\V Ω c v/\VL Ω cs' vs':=by
 cases cs with
 |nil=>left;exact⟨rfl,Ni (by rw[<-h.1];rfl)⟩
 |cons c cs=>
  cases vs with|nil=>exact absurd h.1 (by simp)|cons v vs=>exact Or.inr ⟨c,cs,v,vs,rfl,rfl,h.head,h.tail⟩
theorem VL.append{Ω:Om}{cs ds:List AV}{vs us:List Value}(h:VL Ω cs vs)(k:VL Ω ds us):VL Ω (cs++ds) (vs++us):=by
 refine⟨by simp[h.1,k.1],fun j c v hc hv=>?_⟩;by_cases hj:j<cs.length
 ·rw[Nq hj]at hc;rw[Nq (by rw[<-h.1];exact hj)]at hv;exact h.2 j c v hc hv
 ·rw[Nr (by omega)]at hc;rw[Nr (by rw[<-h.1];omega),<-h.1]at hv;exact k.2 _ c v hc hv
theorem V.agg_inv{Ω:Om}{cs:List AV}{v:Value}(h:V Ω (.agg cs) v):∃vs,v=.agg vs.toArray/\VL Ω cs vs:=by
 cases h with|agg _ vs h1 h2=>exact⟨vs,rfl,h1,h2⟩
theorem V.tup_inv{Ω:Om}{cs:List AV}{v:Value}(h:V Ω (.tup cs) v):∃vs,v=.tuple vs.toArray/\VL Ω cs vs:=by
 cases h with|tup _ vs h1 h2=>exact⟨vs,rfl,h1,h2⟩
theorem V.of_agg{Ω:Om}{cs:List AV}{vs:List Value}(h:VL Ω cs vs):V Ω (.agg cs) (.agg vs.toArray):=.agg cs vs h.1 h.2
theorem V.of_tup{Ω:Om}{cs:List AV}{vs:List Value}(h:VL Ω cs vs):V Ω (.tup cs) (.tuple vs.toArray):=.tup cs vs h.1 h.2
theorem bG(τ:Ty)(x:den τ):(cells τ x).length=ag τ:=by
 cases τ with
 |st n=>cases n<;>rfl
 |_=>rfl
theorem rN(τ:Ty)(x:den τ):(cells τ x).all ng=true:=by
 cases τ with
 |st n=>cases n<;>rfl
 |_=>rfl
theorem cp(τ:Ty):∀xs:List (den τ),(bD τ xs).length=xs.length *ag τ
 |[]=>by simp[bD]
 |x::xs=>by have:=cp τ xs;simp only[bD,O9,N5,bG,N7]at this⊢;rw[this,NT];omega
theorem kd(τ:Ty):0<ag τ:=by
 cases τ with
 |st n=>cases n<;>simp[ag]
 |_=>simp[ag]
theorem j9(τ:Ty):∀(xs:List (den τ))(i:Nat)(x:den τ)(j:Nat)(c:AV),xs[i]?=some x->(cells τ x)[j]?=some c->(bD τ xs)[i *ag τ+j]?=some c
 |[],i,x,j,c,h,_=>by simp at h
 |y::ys,0,x,j,c,h,hc=>by
  simp at h;subst h
  have hj:j<(cells τ y).length:=by
   rcases Nv j (cells τ y).length with k|k
   ·exact k
   ·rw[Nd k]at hc;cases hc
  simp only[bD,O9,Nat.zero_mul,OQ];rw[Nq hj];exact hc
 |y::ys,i+1,x,j,c,h,hc=>by simp at h;have:=j9 τ ys i x j c h hc;simp only[bD,O9]at this⊢;rw[Nr (by rw[bG,NT];omega),bG];rw[show(i+1) *ag τ+j-ag τ=i *ag τ+j from by rw[NT];omega];exact this
theorem fO(τ:Ty)(xs ys:List (den τ)):bD τ (xs++ys)=bD τ xs++bD τ ys:=by simp[bD]
theorem DZ(τ:Ty)(xs:List (den τ)):(bD τ xs).all ng=true:=by simp only[bD,List.all_flatMap];exact Ng.2 fun x _=>rN τ x
theorem V.parts{Ω:Om}{a:AV}{v:Value}(h:V Ω a v)(hl:(aa a).all ng=true):VL Ω (aa a) v.cells.toList:=by
 cases h with
 |agg cs vs h1 h2=>exact⟨h1,h2⟩
 |undef v=>simp[aa,ng]at hl
 |tup cs vs h1 h2=>simp[aa,ng]at hl
 |int k n h1 h2=>exact VL.cons (.int k n h1 h2) .nil
 |bool b=>exact VL.cons (.bool b) .nil
 |str s hs=>exact VL.cons (.str s hs) .nil
 |lstNil τ o ht=>exact VL.cons (.lstNil τ o ht) .nil
 |lstVoid τ a=>exact VL.cons (.lstVoid τ a) .nil
 |lst τ xs o b off cap vals h1 h2 h3 h4 h5=>exact VL.cons (.lst τ xs o b off cap vals h1 h2 h3 h4 h5) .nil
 |nils=>exact VL.cons .nils .nil
 |ptr id off b o len hb=>exact VL.cons (.ptr id off b o len hb) .nil
 |ptNone n=>exact VL.cons (.ptNone n) .nil
 |ptSome n x v hv=>
  have hv':=hv
  cases hv with|cptr _ b off vals h1 h2=>exact VL.cons (.ptSome n x _ hv') .nil
 |arr id n w b len cap a h1 h2 h3 h4 h5=>exact VL.cons (.arr id n w b len cap a h1 h2 h3 h4 h5) .nil
 |aptr id i w off b o len h1=>exact VL.cons (.aptr id i w off b o len h1) .nil
 |bptr id b g h1=>exact VL.cons (.bptr id b g h1) .nil
 |iface t a v hv=>exact VL.cons (.iface t a v hv) .nil
 |nilif=>exact VL.cons .nilif .nil
 |lstp τ xs k b off cap vals h1 h2 h3 h4 h5=>exact VL.cons (.lstp τ xs k b off cap vals h1 h2 h3 h4 h5) .nil
 |tptr τ n k p hp=>exact VL.cons (.tptr τ n k p hp) .nil
 |cptr cs b off vals h1 h2=>exact VL.cons (.cptr cs b off vals h1 h2) .nil
 |st n x v h1=>obtain⟨vs,rfl,hv⟩:=h1.agg_inv;exact hv
 |nilp=>exact VL.cons .nilp .nil
 |fn f cs vs h1 h2=>exact VL.cons (.fn f cs vs h1 h2) .nil
theorem V.leaf_one{Ω:Om}{a:AV}{v:Value}(h:V Ω a v)(hl:ng a=true):v.oneCell'=true:=by
 cases h with
 |ptSome n x v hv=>cases hv;rfl
 |undef v=>cases hl
 |agg cs vs h1 h2=>cases hl
 |tup cs vs h1 h2=>cases hl
 |st n x v h1=>cases hl
 |_=>rfl
theorem VL.leaf_one{Ω:Om}{cs:List AV}{vs:List Value}(h:VL Ω cs vs)(hl:cs.all ng=true):∀v∈vs,v.oneCell'=true:=by
 intro v hv;obtain⟨j,hj,e⟩:=P4.1 hv;have hj':j<cs.length:=by rw[h.1];exact hj
 have hc:cs[j]?=some cs[j]:=N9 hj';have hw:vs[j]?=some v:=by rw[N9 hj,e]
 exact(h.2 j _ _ hc hw).leaf_one (Ng.1 hl _ (OZ hj'))
end Go.AL
end
section
namespace Go.AL
structure AS where
 T:Nat->AV
 B:Nat->Option SObj
def St.abs(s:St):AS:=⟨cx s.t,aE s.b⟩
def occ:CObj->Nat->Nat->Prop
 |.box b off len,b',o=>b'=b/\off<=o/\o<off+len
 |.tail _ base _,b',_=>base=some b'
 |.bld b g,b',_=>b'=b∨g=some b'
class Tabs where
 tab:Nat->Nat->Value->Prop
 obj:Nat->Obj->Prop
abbrev we:Tabs:=⟨fun _ _ _=>False,fun _ _=>False⟩
variable [Tabs]
def nh(e:Nat->Option CObj)(b o:Nat):Prop:=∃id c,e id=some c/\occ c b o
def ja(w:World)(pub:Nat->Nat->Prop)(e:Nat->Option CObj):Prop:=
 (∀b o v,Tabs.tab b o v->pub b o/\w.cell? ⟨b,o,none⟩=some v)/\∀b x,Tabs.obj b x->w.heap[b]?=some x/\∀o,¬nh e b o
structure Fr where
 w0:World
 pub0:Nat->Nat->Prop
 n:Nat
 e0:Nat->Option CObj
 dom0:∀id c,e0 id=some c->cU id=true
 ds:List Deferred
 tab0:ja w0 pub0 e0
def Fr.br(F:Fr)(b o:Nat):Prop:=nh F.e0 b o
def Fr.own(F:Fr)(b o:Nat):Prop:=F.w0.heap.size<=b∨F.br b o
def jb(w:World)(t u b:Nat)(g:Option Nat)(l:Str):Prop:=
 ∃p v,w.heap[b]?=some (.cells #[p,v] t (0,0))/\(p=.pointer none∨p=.pointer (some ⟨b,0,none⟩))/\v.ownBlock=g/\g≠some b/\w.ownsRowF 0 u 1 v l.length (Lib.byteCells l)/\(l=[]->v=.slice none 0 0)
theorem jb.congr{w w':World}{t u b:Nat}{g:Option Nat}{l:Str}(h:jb w t u b g l)(hb:∀b',(b'=b∨g=some b')->w'.heap[b']?=w.heap[b']?):jb w' t u b g l:=by
 obtain⟨p,v,h1,h2,h3,h4,⟨h5,h6⟩,h7⟩:=h;refine⟨p,v,by rw[hb b (.inl rfl),h1],h2,h3,h4,⟨h5,?_⟩,h7⟩;rcases h6 with h6|⟨g',cap,cur,fz,rfl,k1,k2,k3⟩
 ·exact .inl h6
 ·refine .inr ⟨g',cap,cur,fz,rfl,k1,?_,k3⟩;rw[hb g' (.inr (by rw[<-h3];rfl)),k2]
theorem jb.lt{w:World}{t u b:Nat}{g:Option Nat}{l:Str}(h:jb w t u b g l){b':Nat}(hb:b'=b∨g=some b'):b'<w.heap.size:=by
 obtain⟨p,v,h1,h2,h3,h4,h5,_⟩:=h;rcases hb with rfl|hb
 ·exact(Ot.1 h1).1
 ·exact(h5.lt b' (by rw[h3,hb])).2
def bH(Ω:Om)(own:Nat->Nat->Prop)(id:Nat):SObj->Prop
 |.box c=>∃b off,Ω.e id=some (.box b off (aa c).length)/\∀(j:Nat)(c':AV),(aa c)[j]?=some c'->
   own b (off+j)/\¬Ω.pub b (off+j)/\Ω.w.frozen? ⟨b,off+j,none⟩=false/\∃v,Ω.w.cell? ⟨b,off+j,none⟩=some v/\V Ω c' v
 |.tail τ n=>∃base cap,Ω.e id=some (.tail n base cap)/\n<=cap/\cap<=cm/\
   (base=none->cap=0)/\
   ∀b,base=some b->(∀o,own b o)/\∃vs ty fz,Ω.w.heap[b]?=some (.cells vs ty fz)/\fz.2=0/\cap *ag τ<=vs.size/\∀o,n *ag τ<=o->¬Ω.pub b o
 |.tailp τ n x=>∃b cap,Ω.e id=some (.tail (n+1) (some b) cap)/\n+1<=cap/\cap<=cm/\(∀o,own b o)/\
   (∃vs ty fz,Ω.w.heap[b]?=some (.cells vs ty fz)/\fz.2=0/\cap *ag τ<=vs.size)/\(∀o,n *ag τ<=o->¬Ω.pub b o)/\
   ∀(j:Nat)(c:AV),(cells τ x)[j]?=some c->∃v,Ω.w.cell? ⟨b,n *ag τ+j,none⟩=some v/\V Ω c v
 |.bld t u l=>∃b g,Ω.e id=some (.bld b g)/\(∀b',(b'=b∨g=some b')->∀o,own b' o/\¬Ω.pub b' o)/\jb Ω.w t u b g l
structure FrameOK(F:Fr)(Ω:Om):Prop where
 os:Ω.w.os=F.w0.os
 tape:Ω.w.tape=F.w0.tape
 output:Ω.w.output=F.w0.output
 size:F.w0.heap.size<=Ω.w.heap.size
 block:∀b,b<F.w0.heap.size->(∀o,¬F.br b o)->Ω.w.heap[b]?=F.w0.heap[b]?
 cell:∀b o,b<F.w0.heap.size->¬F.br b o->Ω.w.cell? ⟨b,o,none⟩=F.w0.cell? ⟨b,o,none⟩
 kind:∀b,b<F.w0.heap.size->¬(∀o,F.br b o)->Ω.w.shape? b=F.w0.shape? b/\∀o,Ω.w.frozen? ⟨b,o,none⟩=F.w0.frozen? ⟨b,o,none⟩
 pub:∀b o,Ω.pub b o->F.pub0 b o∨F.own b o
 old:∀b o,F.pub0 b o->Ω.pub b o
 pcell:∀b o,F.pub0 b o->Ω.w.cell? ⟨b,o,none⟩=F.w0.cell? ⟨b,o,none⟩
structure Holds(F:Fr)(s:AS)(a:Act)(Ω:Om):Prop where
 tmps:∀i,V Ω (s.T i) (a.tmps.getD i undef)
 size:a.tmps.size=F.n
 defers:a.defers=F.ds
 slots:∀id o,s.B id=some o->bH Ω F.own id o
 dom:∀id,s.B id=none->Ω.e id=none
 inj:∀i j c d b o,Ω.e i=some c->Ω.e j=some d->occ c b o->occ d b o->i=j
 pubok:∀b o,Ω.pub b o->∃v,Ω.w.cell? ⟨b,o,none⟩=some v
 keep:∀id c,F.e0 id=some c->∃c',Ω.e id=some c'/\CLe c c'
 frame:FrameOK F Ω
def dY(T:Nat->AV)(d:Option Nat)(v:AV):Nat->AV:=
 match d with
 |some d=>fun i=>if d=i then v else T i
 |none=>T
theorem Holds.step{F:Fr}{s:AS}{a:Act}{Ω Ω':Om}{B':Nat->Option SObj}{dst:Option Nat}{val:AV}{v:Value}
 (h:Holds F s a Ω)(hx:Ext Ω Ω')(hv:V Ω' val v)(hd:∀d,dst=some d->d<F.n)
 (hs:∀id o,B' id=some o->bH Ω' F.own id o)(hdom:∀id,B' id=none->Ω'.e id=none)
 (hinj:∀i j c d b o,Ω'.e i=some c->Ω'.e j=some d->occ c b o->occ d b o->i=j)
 (hp:∀b o,Ω'.pub b o->∃v,Ω'.w.cell? ⟨b,o,none⟩=some v)(hf:FrameOK F Ω') :
  Holds F ⟨dY s.T dst val,B'⟩ (a.put dst v) Ω':=by
 refine⟨fun i=>?_,?_,?_,hs,hdom,hinj,hp,fun id c hc=>let ⟨c1,h1,l1⟩:=h.keep id c hc;let ⟨c2,h2,l2⟩:=hx.e id c1 h1;⟨c2,h2,l1.trans l2⟩,hf⟩
 ·cases dst with
  |none=>exact(h.tmps i).ext hx
  |some d=>
   simp only[dY,Act.put];have hdn:=hd d rfl;by_cases hi:d=i
   ·subst hi;rw[N6 rfl];have:(a.tmps.setIfInBounds d v).getD d undef=v:=by simp[Nz,h.size,hdn]
    rw[this];exact hv
   ·rw[N3 hi];have:(a.tmps.setIfInBounds d v).getD i undef=a.tmps.getD i undef:=by simp[Nz,hi]
    rw[this];exact(h.tmps i).ext hx
 ·cases dst<;>simp[Act.put,h.size]
 ·cases dst<;>simp[Act.put,h.defers]
theorem Holds.pure{F:Fr}{s:AS}{a:Act}{Ω:Om}{dst:Option Nat}{val:AV}{v:Value}
 (h:Holds F s a Ω)(hv:V Ω val v)(hd:∀d,dst=some d->d<F.n):Holds F ⟨dY s.T dst val,s.B⟩ (a.put dst v) Ω:=
 h.step (Ext.refl Ω) hv hd h.slots h.dom h.inj h.pubok h.frame
theorem gS{w:World}{b:Nat}{o:Obj}(h:w.heap[b]?=some o):b<w.heap.size:=by
 rcases Nv b w.heap.size with k|k
 ·exact k
 ·rw[Array.getElem?_eq_none k]at h;cases h
theorem b7{w:World}{b o:Nat}{v:Value}(h:w.cell? ⟨b,o,none⟩=some v):b<w.heap.size:=World.block_lt_of_cell? w ⟨b,o,none⟩ h
theorem aF{w w':World}{b:Nat}(h:w'.heap[b]?=w.heap[b]?)(o:Nat):w'.cell? ⟨b,o,none⟩=w.cell? ⟨b,o,none⟩:=by simp[World.cell?,h]
theorem bC{w w':World}{b:Nat}(h:w'.heap[b]?=w.heap[b]?)(o:Nat):w'.frozen? ⟨b,o,none⟩=w.frozen? ⟨b,o,none⟩:=by simp[World.frozen?,h]
theorem bZ{w w':World}{b:Nat}(h:w'.heap[b]?=w.heap[b]?):w'.shape? b=w.shape? b:=by simp[World.shape?,h]
theorem aT{w:World}{b:Nat}{vs:Array Value}{ty:Nat}{fz:Nat×Nat}(h:w.heap[b]?=some (.cells vs ty fz))(o:Nat) :
  w.cell? ⟨b,o,none⟩=vs[o]?:=by
 simp[World.cell?,h]
theorem fG{w:World}{b:Nat}{vs:Array Value}{ty:Nat}(h:w.heap[b]?=some (.cells vs ty (0,0)))(o:Nat) :
  w.frozen? ⟨b,o,none⟩=false:=by
 simp[World.frozen?,h]
theorem Holds.blk{F:Fr}{s:AS}{a:Act}{Ω:Om}(h:Holds F s a Ω){id b o:Nat}{c:CObj}(hc:Ω.e id=some c)(hb:occ c b o):b<Ω.w.heap.size:=by
 cases hB:s.B id with
 |none=>rw[h.dom id hB]at hc;cases hc
 |some ob=>
  have hs:=h.slots id ob hB
  cases ob with
  |box x=>
   obtain⟨b',off,he,hh⟩:=hs;rw[he]at hc;simp only[Xs]at hc;subst hc;obtain⟨rfl,h1,h2⟩:=hb;have hj:o-off<(aa x).length:=by omega
   obtain⟨_,_,_,v,hv,_⟩:=hh (o-off) _ (N9 hj);exact b7 hv
  |tail τ n=>obtain⟨base,cap,he,_,_,_,hb'⟩:=hs;rw[he]at hc;simp only[Xs]at hc;subst hc;obtain⟨_,vs,ty,fz,hh,_⟩:=hb' b hb;exact gS hh
  |bld t u l=>obtain⟨b0,g,he,_,hh⟩:=hs;rw[he]at hc;simp only[Xs]at hc;subst hc;exact hh.lt hb
  |tailp τ n x=>
   obtain⟨b0,cap,he,_,_,_,⟨vs,ty,fz,hh,_⟩,_⟩:=hs;rw[he]at hc;simp only[Xs]at hc;subst hc;have:b0=b:=by simpa[occ]using hb
   subst this;exact gS hh
def pK(Ω Ω':Om):CObj->Prop
 |.box b off len=>∀o,off<=o->o<off+len->Ω'.w.cell? ⟨b,o,none⟩=Ω.w.cell? ⟨b,o,none⟩/\Ω'.w.frozen? ⟨b,o,none⟩=Ω.w.frozen? ⟨b,o,none⟩/\(Ω'.pub b o->Ω.pub b o)
 |.tail _ base _=>∀b,base=some b->Ω'.w.heap[b]?=Ω.w.heap[b]?/\∀o,Ω'.pub b o->Ω.pub b o
 |.bld b g=>∀b',(b'=b∨g=some b')->Ω'.w.heap[b']?=Ω.w.heap[b']?/\∀o,Ω'.pub b' o->Ω.pub b' o
theorem pK.of_blocks{Ω Ω':Om}{c:CObj}(h:∀b o,occ c b o->Ω'.w.heap[b]?=Ω.w.heap[b]?/\∀o,Ω'.pub b o->Ω.pub b o):pK Ω Ω' c:=by
 cases c with
 |box b off len=>intro o h1 h2;obtain⟨k1,k2⟩:=h b o ⟨rfl,h1,h2⟩;exact⟨aF k1 o,bC k1 o,k2 o⟩
 |tail n base cap=>exact fun b hb=>h b 0 hb
 |bld b g=>exact fun b' hb=>h b' 0 hb
theorem bH.keep{Ω Ω':Om}{own:Nat->Nat->Prop}{id:Nat}{o:SObj}(h:bH Ω own id o)(hx:Ext Ω Ω')(he:Ω'.e id=Ω.e id)
 (hk:∀c,Ω.e id=some c->pK Ω Ω' c):bH Ω' own id o:=by
 cases o with
 |box c=>
  obtain⟨b,off,h1,h2⟩:=h;refine⟨b,off,by rw[he,h1],fun j c' hc=>?_⟩;obtain⟨q1,q2,q3,v,q4,q5⟩:=h2 j c' hc
  have hj:j<(aa c).length:=by
   rcases Nv j (aa c).length with k|k
   ·exact k
   ·rw[Nd k]at hc;cases hc
  obtain⟨k1,k2,k3⟩:=hk _ h1 (off+j) (by omega) (by omega);exact⟨q1,fun hp=>q2 (k3 hp),by rw[k2,q3],v,by rw[k1,q4],q5.ext hx⟩
 |tail τ n=>obtain⟨base,cap,h1,h2,h3,h4,h5⟩:=h;refine⟨base,cap,by rw[he,h1],h2,h3,h4,fun b hbb=>?_⟩;obtain⟨o1,vs,ty,fz,o2,of,o3,o4⟩:=h5 b hbb;obtain⟨k1,k2⟩:=hk _ h1 b hbb;exact⟨o1,vs,ty,fz,by rw[k1,o2],of,o3,fun o ho hp=>o4 o ho (k2 o hp)⟩
 |bld t u l=>obtain⟨b,g,h1,h2,h3⟩:=h;exact⟨b,g,by rw[he,h1],fun b' hb o=>⟨(h2 b' hb o).1,fun hp=>(h2 b' hb o).2 ((hk _ h1 b' hb).2 o hp)⟩,h3.congr fun b' hb=>(hk _ h1 b' hb).1⟩
 |tailp τ n x=>obtain⟨b,cap,h1,h2,h3,h4,⟨vs,ty,fz,o2,of,o3⟩,h6,h7⟩:=h;obtain⟨k1,k2⟩:=hk _ h1 b rfl;refine⟨b,cap,by rw[he,h1],h2,h3,h4,⟨vs,ty,fz,by rw[k1,o2],of,o3⟩,fun o ho hp=>h6 o ho (k2 o hp),fun j c hc=>?_⟩;obtain⟨v,g1,g2⟩:=h7 j c hc;exact⟨v,by rw[aF k1,g1],g2.ext hx⟩
theorem Holds.drew{F:Fr}{s:AS}{a:Act}{Ω:Om}(h:Holds F s a Ω):Holds F s a ⟨Ω.e,Ω.w.drew,Ω.pub⟩:=by
 have hx:Ext Ω ⟨Ω.e,Ω.w.drew,Ω.pub⟩:=⟨fun _ c hc=>⟨c,hc,CLe.refl c⟩,fun _ _ p=>p,fun _ _ _=>rfl⟩
 exact⟨fun i=>(h.tmps i).ext hx,h.size,h.defers,fun id o ho=>(h.slots id o ho).keep hx rfl (fun _ _=>pK.of_blocks fun _ _ _=>⟨rfl,fun _ p=>p⟩),h.dom,h.inj,h.pubok,h.keep,
  ⟨h.frame.os,h.frame.tape,h.frame.output,h.frame.size,h.frame.block,h.frame.cell,h.frame.kind,h.frame.pub,h.frame.old,h.frame.pcell⟩⟩
def bS(P:Program):TI->TypeDesc->Bool
 |.int k,.int k'=>decide (k=k')
 |.bool,.bool=>true
 |.str,.string=>true
 |.slice e,.slice e'=>Nat.beq e e'
 |.ptr e,.pointer e'=>Nat.beq e e'
 |.map k e,.map k' e'=>Nat.beq k k'&&Nat.beq e e'
 |.strct _ fs,.struct fields=>
  (decide ((fields.toList.map fun f=>(f.offset,f.type))=fs)) && fields.toList.all fun f=>(match P.info? f.type with | some i=>!Nat.beq i.size 0 | none=>false) && !(f.name == "_")
 |.iface,.interface _=>true
 |.arr e n,.array n' e'=>Nat.beq e e'&&Nat.beq n n'
 |.other,d=>match d with|.struct _|.array ..|.interface _=>false|_=>true
 |_,_=>false
def AZ:Value->Bool
 |.agg _=>true
 |_=>false
structure TRok(P:Program)(t:Nat)(r:TR):Prop where
 info:∃i z,P.info? t=some i/\i.size=r.size/\i.bytes=r.bytes/\i.zero=some z/\z.cells.toList.map cQ=r.zero
 zlen:r.zero.length=r.size
 bpos:0<r.size->0<r.bytes
 desc:∃d,P.underlying t=some d/\bS P r.ti d=true
 ty:∀τ,r.ty=some τ->ag τ=r.size/\JE τ=r.isAgg
 zagg:∀i z,P.info? t=some i->i.zero=some z->AZ z=r.isAgg
 eqs:∀fs,r.ti=.strct true fs->P.stoodInHeld t=false/\P.eqGuardType P.depth t=false
theorem TRok.pos{P:Program}{t:Nat}{r:TR}(h:TRok P t r){τ:Ty}(hτ:r.ty=some τ):0<r.size:=by rw[<-(h.ty τ hτ).1];exact kd τ
theorem TRok.bps{P:Program}{t:Nat}{r:TR}(h:TRok P t r){τ:Ty}(hτ:r.ty=some τ):0<r.bytes:=h.bpos (h.pos hτ)
def cq(P:Program)(tbl:List (Nat×TR)):Prop:=∀t r,bE tbl t=some r->TRok P t r
theorem E0(k:IntKind)(n:Int)(h:okC k n=true):k.min<=n/\n<=k.max:=by
 cases n with
 |ofNat m=>simp only[okC,Q7]at h;cases k<;>simp only[JF,IntKind.min,IntKind.max,IntKind.signed,IntKind.bits]at h⊢<;>constructor<;>simp<;>omega
 |negSucc m=>cases k<;>simp only[okC,D8,Q7,NS,ND,NC,JF,IntKind.min,IntKind.max,IntKind.signed,IntKind.bits]at h⊢<;>(try exact h.elim)<;>constructor<;>simp<;>omega
theorem fP{α:Type}:∀(l:List α)(n:Nat),ou l n=true->l.length<=n
 |[],_,_=>by simp
 |_::r,0,h=>by simp[ou]at h
 |_::r,n+1,h=>by simp only[ou]at h;have:=fP r n h;simp;omega
theorem cD{α:Type}:∀(l:List α)(n:Nat),ib l n=true->l.length=n
 |[],0,_=>rfl
 |[],n+1,h=>by simp[ib]at h
 |_::r,0,h=>by simp[ib]at h
 |_::r,n+1,h=>by simp only[ib]at h;simp[cD r n h]
theorem lM{α:Type}:∀(l:List α)(n:Nat),nth l n=l[n]?
 |[],n=>by simp[nth]
 |a::r,0=>rfl
 |a::r,n+1=>by simp[nth,lM r n]
theorem rO(Ω:Om)(v:Value):V Ω (cQ v) v:=by
 unfold cQ;split
 ·split
  ·rename_i k n h;obtain⟨h1,h2⟩:=E0 k n h;exact .int k n h1 h2
  ·exact .undef _
 ·exact .bool _
 ·split
  ·rename_i s h;have hl:=fP _ _ h;have:=V.str (Ω:=Ω) s.data.toList (by unfold cm;omega);simpa using this
  ·exact .undef _
 ·exact .nils
 ·exact .nilp
 ·exact .nilif
 ·exact .undef _
theorem JK(Ω:Om)(v:Value):V Ω (rf v) v:=by
 unfold rf;split
 ·rename_i cs;refine V.of_agg (vs:=cs.toList) ⟨by simp,fun j c u hc hu=>?_⟩;rw[NM,hu]at hc;simp only[OC,Xs]at hc;subst hc;exact rO Ω u
 ·exact rO Ω v
theorem rP(Ω:Om)(vs:List Value):VL Ω (vs.map cQ) vs:=by refine⟨by simp,fun j c v hc hv=>?_⟩;rw[NM,hv]at hc;simp only[OC,Xs]at hc;subst hc;exact rO Ω v
theorem ct{F:Fr}{s:AS}{a:Act}{Ω:Om}(h:Holds F s a Ω)(x:Operand):V Ω (opd s.T x) (a.eval x):=by
 cases x with|tmp t=>exact h.tmps t|const v=>exact JK Ω v|global g=>exact .undef _|func f=>exact .fn f [] [] rfl (fun j c v hc=>by simp at hc)
end Go.AL
end
section
namespace Go.AL
variable [Tabs]
def updB:(Nat->Option SObj)->List (Nat×SObj)->(Nat->Option SObj)
 |B,[]=>B
 |B,(i,o)::r=>updB (fun j=>if i=j then some o else B j) r
def AS.put(s:AS)(d:Option Nat)(e:Eff):AS:=⟨dY s.T d e.val,updB s.B e.upd⟩
theorem bx{P:Program}{o:Oper}{a:Act}{w w':World}{next:Act->World->Prop}{Q:Exit->Act->World->Prop}{v:Value}
 (h:(execOp a.eval o).run P w=.ok (.value v) w')(hn:next (a.put o.dst v) w'):o.wp P a w next Q:=by
 unfold Oper.wp;rw[h];exact hn
theorem oz{P:Program}{o:Oper}{a:Act}{w w':World}{next:Act->World->Prop}{Q:Exit->Act->World->Prop}
 (h:(execOp a.eval o).run P w=.ok .skip w')(hn:next (a.put o.dst undef) w'):o.wp P a w next Q:=by
 unfold Oper.wp;rw[h];exact hn
theorem bQ{P:Program}{w:World}{t:Nat}{d:TypeDesc}(h:P.underlying t=some d):(underlying t).run P w=.ok d w:=by simp[underlying,program,Sem.run,h]
theorem rQ{P:Program}{w:World}{t:Nat}{i:TypeInfo}(h:P.info? t=some i):(typeInfo t).run P w=.ok i w:=by simp[typeInfo,program,Sem.run,h]
theorem eE{P:Program}{w:World}{t:Nat}{i:TypeInfo}(h:P.info? t=some i):(sizeOf t).run P w=.ok i.size w:=by simp[sizeOf,rQ h]
theorem lN{P:Program}{w:World}{t:Nat}{i:TypeInfo}{z:Value}(h:P.info? t=some i)(hz:i.zero=some z) :
  (zeroValue t).run P w=.ok z w:=by
 simp[zeroValue,rQ h,hz]
structure TF(P:Program)(t:Nat)(r:TR) where
 size:∀w,(sizeOf t).run P w=.ok r.size w
 agg:∀w,(isAgg t).run P w=.ok r.isAgg w
theorem TRok.tf{P:Program}{t:Nat}{r:TR}(h:TRok P t r):TF P t r:=by obtain⟨i,z,h1,h2,h3,h4,h5⟩:=h.info;obtain⟨d,h6,h7⟩:=h.desc;refine⟨fun w=>by rw[eE h1,h2],fun w=>?_⟩;simp only[isAgg,NA,bQ h6,Nh];cases hti:r.ti<;>rw[hti]at h7<;>cases d<;>simp[bS]at h7<;>simp[TR.isAgg,hti]
theorem qw:∀(cs:List AV)(n:Nat)(ds:List AV),nq cs n=some ds->n<=cs.length/\ds=cs.drop n
 |cs,0,ds,h=>by simp[nq]at h;simp[h]
 |[],n+1,ds,h=>by simp[nq]at h
 |c::r,n+1,ds,h=>by simp only[nq]at h;obtain⟨h1,h2⟩:=qw r n ds h;exact⟨by simp;omega,by simp[h2]⟩
theorem qx:∀(cs:List AV)(n:Nat)(ds:List AV),qu cs n=some ds->n<=cs.length/\ds=cs.take n
 |cs,0,ds,h=>by simp[qu]at h;simp[<-h]
 |[],n+1,ds,h=>by simp[qu]at h
 |c::r,n+1,ds,h=>by
  simp only[qu]at h;split at h
  ·rename_i l hl;obtain⟨h1,h2⟩:=qx r n l hl;simp at h;exact⟨by simp;omega,by simp[<-h,h2]⟩
  ·simp at h
theorem iS{cs ds:List AV}{off n:Nat}(h:sub cs off n=some ds):off+n<=cs.length/\ds=(cs.drop off).take n:=by
 unfold sub at h;split at h
 ·rename_i l hl;obtain⟨h1,h2⟩:=qw _ _ _ hl;obtain⟨h3,h4⟩:=qx _ _ _ h;subst h2;simp at h3;exact⟨by omega,h4⟩
 ·simp at h
theorem VL.sub{Ω:Om}{cs ds:List AV}{vs:List Value}{off n:Nat}(h:VL Ω cs vs)(hs:sub cs off n=some ds) :
  VL Ω ds ((vs.drop off).take n):=by
 obtain⟨h1,h2⟩:=iS hs;subst h2;refine⟨by simp[h.1],fun j c v hc hv=>?_⟩;rw[NP]at hc hv;split at hc
 ·rename_i hj;rw[N6 hj,O6]at hv;rw[O6]at hc;exact h.2 _ c v hc hv
 ·simp at hc
theorem xS{P:Program}{w:World}{t:Nat}{r:TR}(ht:TF P t r){cs:List AV}{x:AV}(ho:eC r cs=some x){Ω:Om}
 {b off:Nat}{vs:List Value}(hv:VL Ω cs vs)(hlen:cs.length=r.size)(hc:∀j v,vs[j]?=some v->w.cell? ⟨b,off+j,none⟩=some v) :
  ∃v,(loadVar t ⟨b,off,none⟩).run P w=.ok v w/\V Ω x v:=by
 unfold eC at ho;simp only[loadVar,NA,ht.agg,Nh];split at ho
 ·rename_i hagg;simp at ho;subst ho;refine⟨.agg vs.toArray,?_,V.of_agg hv⟩;rw[hagg];simp only[NS,NA,ht.size,Nh]
  have:=run_loadCells_list (P:=P) w ⟨b,off,none⟩ vs (fun j v hj=>by
   have:=hc j v hj;unfold Addr.add;split
   ·rename_i h0;subst h0;simpa using this
   ·simpa using this)
  rw[<-hlen,hv.1,this];simp
 ·rename_i hagg;have hagg':r.isAgg=false:=by simpa using hagg
  rw[hagg']
  cases cs with
  |nil=>simp at ho
  |cons c cs=>
   cases cs with
   |cons _ _=>simp at ho
   |nil=>
    simp at ho;subst ho
    cases vs with
    |nil=>exact absurd hv.1 (by simp)
    |cons v vs=>
     cases vs with|cons _ _=>exact absurd hv.1 (by simp)|nil=>refine⟨v,?_,hv.head⟩;have:=hc 0 v rfl;simp only[P5]at this;simp[this]
theorem Dg{Ω:Om}{w:World}{b:Nat}:∀(cs:List AV)(off:Nat),(∀(j:Nat)(c:AV),cs[j]?=some c->∃v,w.cell? ⟨b,off+j,none⟩=some v/\V Ω c v)->
  ∃vs,VL Ω cs vs/\∀j v,vs[j]?=some v->w.cell? ⟨b,off+j,none⟩=some v
 |[],_,_=>⟨[],.nil,fun j v h=>by simp at h⟩
 |c::cs,off,h=>by
  obtain⟨v,h1,h2⟩:=h 0 c rfl
  obtain⟨vs,h3,h4⟩:=Dg (w:=w) (b:=b) cs (off+1) (fun j d hd=>by
   have:=h (j+1) d (by simpa using hd)
   rwa [show off+(j+1)=off+1+j by omega]at this)
  refine⟨v::vs,.cons h2 h3,fun j u hu=>?_⟩
  cases j with
  |zero=>simp at hu;subst hu;exact h1
  |succ j=>
   have:=h4 j u (by simpa using hu)
   rwa [show off+1+j=off+(j+1) by omega]at this
theorem E1(l:List AV):qu l l.length=some l:=by
 induction l with
 |nil=>rfl
 |cons a l ih=>simp[qu,ih]
theorem xT{l ds:List AV}{off:Nat}(h:nq l off=some ds):sub l off ds.length=some ds:=by simp[sub,h,E1]
theorem JL(cs:List AV)(n:Nat)(hn:n=cs.length):sub cs 0 n=some cs:=by subst hn;exact xT (by cases cs<;>rfl)
theorem lO{n m:SN}{off:Nat}{y:SD n}{z:SD m}(h:lJ n off y=some (.st m z)):sub (cells (.st n) y) off (ag (.st m))=some (cells (.st m) z):=by
 cases n with
 |shape=>cases h
 |item=>
  match off,h with
  |2,h=>simp only[lJ,Xs]at h;cases h;rfl
 |change=>cases h
 |token=>cases h
 |fault=>cases h
 |term=>cases h
 |version=>cases h
 |bound=>
  match off,h with
  |1,h=>simp only[lJ,Xs]at h;cases h;rfl
 |imp=>
  match off,h with
  |1,h=>simp only[lJ,Xs]at h;cases h;rfl
 |decl=>
  match off,h with
  |2,h=>simp only[lJ,Xs]at h;cases h;rfl
  |7,h=>simp only[lJ,Xs]at h;cases h;rfl
 |modu=>cases h
 |bind=>
  match off,h with
  |2,h=>simp only[lJ,Xs]at h;cases h;rfl
 |env=>cases h
 |dep=>cases h
 |val=>cases h
 |cell=>
  match off,h with
  |1,h=>simp only[lJ,Xs]at h;cases h;rfl
 |op=>cases h
 |chunk=>cases h
 |usg=>cases h
 |nm=>cases h
 |stt=>cases h
 |par=>cases h
 |rstt=>cases h
theorem qy{P:Program}{t:Nat}{r:TR}(hr:TRok P t r){c:AV}{off:Nat}{x:AV}(h:nr r c off=some x) :
  ∃ds z,sub (aa c) off r.size=some ds/\eC r ds=some z/\∀Ω v,V Ω z v->V Ω x v:=by
 have gy:∀{off:Nat},(match sub (aa c) off r.size with|some cs=>eC r cs|none=>none)=some x->
   ∃ds z,sub (aa c) off r.size=some ds/\eC r ds=some z/\∀Ω v,V Ω z v->V Ω x v:=by
  intro off h;split at h
  ·rename_i cs hcs;exact⟨cs,x,hcs,h,fun _ _ h=>h⟩
  ·simp at h
 unfold nr at h;split at h
 ·rename_i n y m hty;obtain⟨hw,ha⟩:=hr.ty _ hty;split at h
  ·rename_i hnm;subst hnm;simp only[Xs]at h;subst h;refine⟨cells (.st n) y,.agg (cells (.st n) y),JL _ _ (by show r.size=(cells (.st n) y).length;rw[bG,hw]),?_,fun Ω v hv=>.st n y v hv⟩;have ha':r.isAgg=true:=by rw[<-ha];rfl
   simp[eC,ha']
  ·exact gy h
 ·rename_i n y o m hty;obtain⟨hw,ha⟩:=hr.ty _ hty;have ha':r.isAgg=true:=by rw[<-ha];rfl
  split at h
  ·rename_i m' z hz;split at h
   ·rename_i hm;subst hm;simp only[Xs]at h;subst h;have hs:=lO hz;rw[hw]at hs;exact⟨cells (.st _) z,.agg (cells (.st _) z),hs,by simp[eC,ha'],fun Ω v hv=>.st _ z v hv⟩
   ·simp at h
  ·exact gy h
 ·exact gy h
section
variable {P:Program} {C:Cfg} {F:Fr} {s:AS} {a:Act} {Ω:Om} {o:Oper} {eff:Eff} {next:Act->World->Prop} {Q:Exit->Act->World->Prop}
def dq(P:Program)(C:Cfg)(o:Oper):Prop:=
 ∀(F:Fr)(s:AS)(a:Act)(Ω:Om)(eff:Eff)(next:Act->World->Prop)(Q:Exit->Act->World->Prop),
  Holds F s a Ω->(∀d,o.dst=some d->d<F.n)->aQ C o s.T s.B=some eff->eff.asks->
  (∀a' Ω',Holds F (s.put o.dst eff) a' Ω'->next a' Ω'.w)->o.wp P a Ω.w next Q
theorem dq.pure(hv:∀(F:Fr)(s:AS)(a:Act)(Ω:Om)(eff:Eff),Holds F s a Ω->aQ C o s.T s.B=some eff->eff.asks->
  eff.upd=[]/\∃v,(execOp a.eval o).run P Ω.w=.ok (.value v) Ω.w/\V Ω eff.val v):dq P C o:=by
 intro F s a Ω eff next Q h hd he ho hn
 obtain⟨h1,v,h2,h3⟩:=hv F s a Ω eff h he ho;refine bx h2 (hn _ _ ?_);have:=h.pure h3 hd;simpa[AS.put,h1,updB]using this
theorem JM{x:Operand}(hop:o.op=.move x):dq P C o:=by refine dq.pure fun F s a Ω eff h he ho=>?_;simp only[aQ,hop,Xs]at he;subst he;exact⟨rfl,_,by simp[execOp,hop],ct h x⟩
theorem E2{x:Operand}(hop:o.op=.assign x):dq P C o:=by refine dq.pure fun F s a Ω eff h he ho=>?_;simp only[aQ,hop,Xs]at he;subst he;exact⟨rfl,_,by simp[execOp,hop],ct h x⟩
theorem V.bool_inv{Ω:Om}{b:Bool}{v:Value}(h:V Ω (.bool b) v):v=.bool b:=by cases h;rfl
theorem V.int_inv{Ω:Om}{k:IntKind}{n:Int}{v:Value}(h:V Ω (.int k n) v):v=.int k n/\k.min<=n/\n<=k.max:=by cases h;exact⟨rfl,by assumption,by assumption⟩
theorem V.str_inv{Ω:Om}{s:Str}{v:Value}(h:V Ω (.str s) v):v=.string ⟨s.toArray⟩/\s.length<=cm:=by cases h;exact⟨rfl,by assumption⟩
theorem V.nils_inv{Ω:Om}{v:Value}(h:V Ω .nils v):v=.slice none 0 0:=by cases h;rfl
theorem V.ptr_inv{Ω:Om}{i off:Nat}{v:Value}(h:V Ω (.ptr i off) v):∃b o len,v=.pointer (some ⟨b,o+off,none⟩)/\Ω.e i=some (.box b o len):=by cases h;exact⟨_,_,_,rfl,by assumption⟩
theorem JN{c x y:Operand}(hop:o.op=.pick c x y):dq P C o:=by
 refine dq.pure fun F s a Ω eff h he ho=>?_;simp only[aQ,hop]at he;split at he
 ·rename_i b hb;simp only[Xs]at he;subst he;have hc:=ct h c;rw[hb]at hc;have hc:=hc.bool_inv;cases b
  ·exact⟨rfl,_,by simp[execOp,hop,hc,asBool],ct h y⟩
  ·exact⟨rfl,_,by simp[execOp,hop,hc,asBool],ct h x⟩
 ·simp at he
theorem jG(hT:cq P C.tbl){t:Nat}{r:TR}(hr:bE C.tbl t=some r){Ω:Om}{w:World}{c x:AV}{b o' off:Nat}(hl:nr r c off=some x)
 (hc:∀(j:Nat)(c':AV),(aa c)[j]?=some c'->∃v,w.cell? ⟨b,o'+j,none⟩=some v/\V Ω c' v) :
  ∃v,(loadVar t ⟨b,o'+off,none⟩).run P w=.ok v w/\V Ω x v:=by
 obtain⟨ds,z,h1,h2,h3⟩:=qy (hT t r hr) hl;obtain⟨vs,h4,h5⟩:=Dg _ _ hc;obtain⟨s1,s2⟩:=iS h1
 obtain⟨v,h6,h7⟩:=xS (w:=w) (hT t r hr).tf h2 (h4.sub h1) (b:=b) (off:=o'+off) (by rw[s2];simp;omega) (fun j u hj=>by
  rw[NP]at hj;split at hj
  ·rw[O6]at hj;have:=h5 _ _ hj
   rwa [<-OR]at this
  ·simp at hj)
 exact⟨v,h6,h3 _ _ h7⟩
theorem mM(τ:Ty)(x:den τ):aa (inj τ x)=cells τ x:=by cases τ<;>rfl
theorem V.aptr_inv{Ω:Om}{i n w off:Nat}{v:Value}(h:V Ω (.aptr i n w off) v):∃b o len,v=.pointer (some ⟨b,o+(n *w+off),none⟩)/\Ω.e i=some (.box b o len):=by cases h;exact⟨_,_,_,rfl,by assumption⟩
theorem bH.row{Ω:Om}{own:Nat->Nat->Prop}{id b o len:Nat}{τ:Ty}{xs:List (den τ)}(h:bH Ω own id (.box (.row τ xs)))(he:Ω.e id=some (.box b o len))
 {i:Nat}(hi:i<xs.length)(j:Nat)(c:AV)(hc:(aa (inj τ (xs.getD i (dfl τ))))[j]?=some c) :
  (bD τ xs)[i *ag τ+j]?=some c/\own b (o+(i *ag τ+j))/\¬Ω.pub b (o+(i *ag τ+j))/\Ω.w.frozen? ⟨b,o+(i *ag τ+j),none⟩=false/\
   ∃v,Ω.w.cell? ⟨b,o+(i *ag τ+j),none⟩=some v/\V Ω c v:=by
 obtain⟨b',o',e1,e2⟩:=h;rw[he]at e1;simp only[Xs,CObj.box.injEq]at e1;obtain⟨rfl,rfl,rfl⟩:=e1;have hx:xs[i]?=some (xs.getD i (dfl τ)):=by simp[Nb,hi]
 rw[mM]at hc;have hf:=j9 τ xs i _ j c hx hc;exact⟨hf,e2 _ c hf⟩
theorem JO(hT:cq P C.tbl){t:Nat}{x:Operand}(hop:o.op=.load t x):dq P C o:=by
 refine dq.pure fun F s a Ω eff h he ho=>?_;simp only[aQ,hop]at he;split at he
 ·rename_i r hr;have hx:=ct h x;split at he
  ·rename_i id off hopd;rw[hopd]at hx;obtain⟨b,o',len,hxv,hxb⟩:=hx.ptr_inv;split at he
   ·rename_i c hcs;simp only[NB]at he;obtain⟨av,ho1,rfl⟩:=he;obtain⟨b',off',e1,e2⟩:=h.slots id _ hcs;rw[hxb]at e1;simp only[Xs,CObj.box.injEq]at e1;obtain⟨rfl,rfl,rfl⟩:=e1;obtain⟨v,hv1,hv2⟩:=jG (w:=Ω.w) hT hr ho1 (b:=b) (o':=o') (fun j c' hc=>(e2 j c' hc).2.2.2);exact⟨rfl,v,by simp[execOp,hop,hxv,Instr.loadAt,Instr.sureAddr,hv1],hv2⟩
   ·simp at he
  ·rename_i c hopd;rw[hopd]at hx;simp only[NB]at he;obtain⟨av,ho1,rfl⟩:=he;generalize hxe:a.eval x=xv at hx
   cases hx with
   |cptr _ b off vals h1 h2=>obtain⟨v,hv1,hv2⟩:=jG (w:=Ω.w) hT hr ho1 (b:=b) (o':=off) (fun j c' hc=>⟨_,(h1 j c' hc).2,h2 j c' hc⟩);simp only[P5]at hv1;exact⟨rfl,v,by simp[execOp,hop,hxe,Instr.loadAt,Instr.sureAddr,hv1],hv2⟩
  ·rename_i id i w off hopd;rw[hopd]at hx;obtain⟨b,o',len,hxv,hxb⟩:=hx.aptr_inv;split at he
   ·rename_i τ xs hcs;unfold Db at he;split at he
    ·rename_i hw;subst hw;split at he
     ·rename_i av hav;simp only[Xs]at he;subst he;have hi:i<xs.length:=ho
      obtain⟨v,hv1,hv2⟩:=jG (w:=Ω.w) hT hr hav (b:=b) (o':=o'+i *ag τ) (fun j c' hc=>by
       obtain⟨_,_,_,_,v,h1,h2⟩:=(h.slots id _ hcs).row hxb hi j c' hc;exact⟨v,by rw[OR];exact h1,h2⟩)
      rw[OR]at hv1;exact⟨rfl,v,by simp[execOp,hop,hxv,Instr.loadAt,Instr.sureAddr,hv1],hv2⟩
     ·simp at he
    ·simp at he
   ·simp at he
  ·simp at he
 ·simp at he
theorem xU{x:Operand}(hop:o.op=.nilCheck x):dq P C o:=by
 refine dq.pure fun F s a Ω eff h he ho=>?_;simp only[aQ,hop]at he;have hx:=ct h x;split at he
 ·rename_i id off hopd;simp only[Xs]at he;subst he;rw[hopd]at hx;obtain⟨b,o',len,hxv,hxb⟩:=hx.ptr_inv;exact⟨rfl,.pointer (some ⟨b,o'+off,none⟩),by simp[execOp,hop,hxv],.ptr id off b o' len hxb⟩
 ·rename_i cs hopd;simp only[Xs]at he;subst he;rw[hopd]at hx;generalize hxe:a.eval x=xv at hx;have hx':=hx
  cases hx with|cptr _ b off vals h1 h2=>exact⟨rfl,_,by simp[execOp,hop,hxe],hx'⟩
 ·rename_i id i w off hopd;simp only[Xs]at he;subst he;rw[hopd]at hx;obtain⟨b,o',len,hxv,hxb⟩:=hx.aptr_inv;rw[hxv]at hx;exact⟨rfl,_,by simp[execOp,hop,hxv],hx⟩
 ·rename_i f cs hopd;simp only[Xs]at he;subst he;rw[hopd]at hx;generalize hxe:a.eval x=xv at hx;have hx':=hx
  cases hx with|fn f cs vs h1 h2=>exact⟨rfl,_,by simp[execOp,hop,hxe],hx'⟩
 ·rename_i n y hopd;simp only[Xs]at he;subst he;rw[hopd]at hx;have hs:y.isSome=true:=ho
  cases y with
  |none=>cases hs
  |some y=>
   generalize hxe:a.eval x=xv at hx
   cases hx with
   |ptSome n y v hv=>
    have hv':=hv
    cases hv with|cptr _ b off vals h1 h2=>exact⟨rfl,_,by simp[execOp,hop,hxe],hv'⟩
 ·simp at he
end
end Go.AL
end
section
namespace Go.AL
variable [Tabs]
section
variable {P:Program} {C:Cfg} {o:Oper}
theorem jH(k:IntKind)(n:Int)(h1:k.min<=n)(h2:n<=k.max):k.wrap n=n:=by cases k<;>simp only[IntKind.min,IntKind.max,IntKind.signed,IntKind.bits,IntKind.wrap]at *<;> simp at *<;> omega
theorem E3{op:BinOp}{t:Nat}{x y:Operand}{k k':IntKind}{a b:Int}:eqGuard op t x y (.int k a) (.int k' b)=pure ():=by unfold eqGuard;cases op<;>rfl
theorem E4{op:BinOp}{t:Nat}{x y:Operand}{a b:ByteArray}:eqGuard op t x y (.string a) (.string b)=pure ():=by unfold eqGuard;cases op<;>rfl
theorem B3{op:BinOp}{t:Nat}{x y:Operand}{a b:Bool}:eqGuard op t x y (.bool a) (.bool b)=pure ():=by unfold eqGuard;cases op<;>rfl
theorem JP{Ω:Om}{op:BinOp}{t:Nat}{k:IntKind}{m n:Int}{eff:Eff}(he:AN op k m n=some eff)(ho:eff.asks){w:World}
 (hm:k.min<=m/\m<=k.max)(hn:k.min<=n/\n<=k.max) :
  eff.upd=[]/\∃v,(binOp op t (.int k m) (.int k n)).run P w=.ok v w/\V Ω eff.val v:=by
 have hmax:k.min<=0/\0<=k.max:=by cases k<;>simp[IntKind.min,IntKind.max,IntKind.signed,IntKind.bits]
 cases op<;>simp only[AN,Xs,reduceCtorEq]at he<;>subst he<;>refine⟨rfl,?_⟩
 case add=>
  obtain⟨h1,h2⟩:=ho;exact⟨_,by simp[binOp,Op.intArith,jH k _ h1 h2],.int k _ h1 h2⟩
 case sub=>
  obtain⟨h1,h2⟩:=ho;exact⟨_,by simp[binOp,Op.intArith,jH k _ h1 h2],.int k _ h1 h2⟩
 case mul=>
  obtain⟨h1,h2⟩:=ho;exact⟨_,by simp[binOp,Op.intArith,jH k _ h1 h2],.int k _ h1 h2⟩
 case quo=>
  obtain⟨h0,h1,h2⟩:=ho;exact⟨_,by simp[binOp,Op.intDiv,jH k _ h1 h2,h0],.int k _ h1 h2⟩
 case rem=>
  obtain⟨h0,h1,h2⟩:=ho;exact⟨_,by simp[binOp,Op.intDiv,h0],.int k _ h1 h2⟩
 case eql=>exact⟨.bool (decide (m=n)),by simp[binOp,Op.intCmp];by_cases h:m=n<;>simp[h],.bool _⟩
 case neq=>exact⟨.bool (!decide (m=n)),by simp[binOp,Op.intCmp];by_cases h:m=n<;>simp[h],.bool _⟩
 case lss=>exact⟨_,by simp[binOp,Op.intCmp],.bool _⟩
 case leq=>exact⟨_,by simp[binOp,Op.intCmp],.bool _⟩
 case gtr=>exact⟨_,by simp[binOp,Op.intCmp],.bool _⟩
 case geq=>exact⟨_,by simp[binOp,Op.intCmp],.bool _⟩
theorem fQ(l:List UInt8):(⟨l.toArray⟩:ByteArray).toList=l:=by
 have h:∀(b:ByteArray)(i:Nat)(r:List UInt8),ByteArray.toList.loop b i r=r.reverse++b.data.toList.drop i:=by
  intro b i r
  induction hk:b.size-i generalizing i r with
  |zero=>unfold ByteArray.toList.loop;rw[N3 (by omega)];have:b.data.toList.drop i=[]:=OI (by simp;exact Nat.le_of_sub_eq_zero hk);simp[this]
  |succ k ih=>
   unfold ByteArray.toList.loop;have hlt:i<b.size:=by omega
   rw[N6 hlt,ih (i+1) _ (by omega)];have hlt':i<b.data.toList.length:=by simpa using hlt
   rw[P0 hlt'];simp[ByteArray.get!,hlt]
 unfold ByteArray.toList;rw[h];simp
theorem oA(m n:Str):(m ==n)=decide (m=n):=by rw[Bool.eq_iff_iff];simp
theorem JQ{Ω:Om}{op:BinOp}{t:Nat}{m n:Str}{eff:Eff}(he:AO op m n=some eff)(ho:eff.asks){w:World} :
  eff.upd=[]/\∃v,(binOp op t (.string ⟨m.toArray⟩) (.string ⟨n.toArray⟩)).run P w=.ok v w/\V Ω eff.val v:=by
 cases op<;>simp only[AO,Xs,reduceCtorEq]at he<;>subst he<;>refine⟨rfl,?_⟩
 case add=>
  have h1:m.length+n.length<=9223372036854775807:=ho;have e:(⟨m.toArray⟩:ByteArray)++⟨n.toArray⟩=⟨(m++n).toArray⟩:=by apply ByteArray.ext;simp
  refine⟨.string ⟨(m++n).toArray⟩,?_,.str (m++n) (by unfold cm;simp;omega)⟩;have e2:¬(((ByteArray.size ⟨m.toArray⟩+ByteArray.size ⟨n.toArray⟩:Nat):Int) > IntKind.i64.max):=by simp[ByteArray.size,IntKind.max,IntKind.signed,IntKind.bits];omega
  simp only[binOp,Op.stringOp];rw[N3 e2,e];rfl
 case eql=>exact⟨.bool (decide (m=n)),by simp[binOp,Op.stringOp,fQ,oA],.bool _⟩
 case neq=>exact⟨.bool (!decide (m=n)),by simp[binOp,Op.stringOp,fQ,oA],.bool _⟩
 case lss=>exact⟨.bool (Op.bytesLess m n),by simp[binOp,Op.stringOp,fQ],.bool _⟩
 case leq=>exact⟨.bool (Op.bytesLess m n||decide (m=n)),by simp[binOp,Op.stringOp,fQ,oA],.bool _⟩
 case gtr=>exact⟨.bool (!(Op.bytesLess m n||decide (m=n))),by simp[binOp,Op.stringOp,fQ,oA],.bool _⟩
 case geq=>exact⟨.bool (!Op.bytesLess m n),by simp[binOp,Op.stringOp,fQ],.bool _⟩
theorem pL(d:Nat){t:Nat}{m n:Bool}(hu:P.underlying t=some .bool){w:World} :
  (Op.equalIn (d+1) t (.bool m) (.bool n)).run P w=.ok (m ==n) w:=by
 unfold Op.equalIn;simp only[NA,bQ hu,Nh];rfl
theorem lP{t:Nat}{m n:Bool}(hu:P.underlying t=some .bool){w:World} :
  (Op.equal t (.bool m) (.bool n)).run P w=.ok (m ==n) w:=pL 9999 hu
theorem GQ{Ω:Om}{op:BinOp}{t:Nat}{m n:Bool}{eff:Eff}(hu:P.underlying t=some .bool)(he:w5 op m n=some eff){w:World} :
  eff.upd=[]/\∃v,(binOp op t (.bool m) (.bool n)).run P w=.ok v w/\V Ω eff.val v:=by
 cases op<;>simp only[w5,Xs,reduceCtorEq]at he<;>subst he<;>refine⟨rfl,?_⟩
 case eql=>exact⟨.bool (m ==n),by simp[binOp,lP hu],.bool _⟩
 case neq=>exact⟨.bool (!(m ==n)),by simp[binOp,lP hu],.bool _⟩
theorem bJ(hT:cq P C.tbl){t:Nat}{r:TR}(hr:bE C.tbl t=some r){ti:TI}(hti:r.ti=ti) :
  ∃d,P.underlying t=some d/\bS P ti d=true:=by
 obtain⟨d,h1,h2⟩:=(hT t r hr).desc;exact⟨d,h1,by rw[<-hti];exact h2⟩
theorem wg(hT:cq P C.tbl){ft:Nat}{rt:TR}(hr:bE C.tbl ft=some rt){Ω:Om}{c d:AV}{u v:Value}{b:Bool}(h:AR rt.ti c d=some b)
 (hu:V Ω c u)(hv:V Ω d v)(dep:Nat)(w:World):(Op.equalIn (dep+1) ft u v).run P w=.ok b w/\rt.isAgg=false:=by
 obtain⟨dd,hd1,hd2⟩:=bJ hT hr rfl;unfold TR.isAgg;generalize rt.ti=ti at h hd2;unfold AR at h;split at h
 ·split at h
  ·rename_i j a k b' hjk;subst hjk;cases dd<;>simp[bS]at hd2;simp at h;subst h;rw[hu.int_inv.1,hv.int_inv.1];refine⟨?_,rfl⟩;rw[run_equalIn_int _ _ _ _ _ _ _ hd1];congr 1
  ·cases h
 ·cases dd<;>simp[bS]at hd2;simp at h;subst h;rw[hu.bool_inv,hv.bool_inv];exact⟨run_equalIn_bool' _ _ _ _ _ hd1,rfl⟩
 ·cases dd<;>simp[bS]at hd2;simp at h;subst h;rw[hu.str_inv.1,hv.str_inv.1];refine⟨?_,rfl⟩;rw[run_equalIn_string _ _ _ _ _ hd1,fQ,fQ,oA]
 ·cases h
theorem oB(hT:cq P C.tbl){Ω:Om}{cs ds:List AV}{xs ys:List Value}(hx:VL Ω cs xs)(hy:VL Ω ds ys)(dep:Nat)(w:World) :
  ∀(fields:List Field)(b:Bool),(∀f∈fields,f.name≠ "_")->GJ C (fields.map fun f=>(f.offset,f.type)) cs ds=some b->
   (Op.eqFields (dep+1) xs.toArray ys.toArray fields).run P w=.ok b w
 |[],b,_,h=>by simp[GJ]at h;subst h;simp[Op.eqFields]
 |f::r,b,hn,h=>by
  simp only[Nj,GJ]at h;split at h
  ·rename_i rt c d hr hc hd;split at h
   ·rename_i b1 b2 h1 h2;simp only[Xs]at h;subst h;rw[lM]at hc hd
    have getv:∀{cs:List AV} {vs:List Value} {c:AV},VL Ω cs vs->cs[f.offset]?=some c->∃v,vs[f.offset]?=some v/\V Ω c v:=by
     intro cs vs c hv hc
     have hl:f.offset<cs.length:=by
      rcases Nv f.offset cs.length with k|k
      ·exact k
      ·rw[Nd k]at hc;cases hc
     have hl':f.offset<vs.length:=by rw[<-hv.1];exact hl
     exact⟨vs[f.offset],N9 hl',hv.2 _ c _ hc (N9 hl')⟩
    obtain⟨u,hu1,hu2⟩:=getv hx hc;obtain⟨v,hv1,hv2⟩:=getv hy hd;obtain⟨k1,k2⟩:=wg hT hr h1 hu2 hv2 dep w;have hpart:∀{vs:List Value} {u:Value},vs[f.offset]?=some u->(part f.type vs.toArray f.offset).run P w=.ok u w:=by intro vs u hu;simp[part,(hT _ _ hr).tf.agg,k2,hu]
    have ih:=oB hT hx hy dep w r b2 (fun g hg=>hn g (by simp[hg])) h2;simp only[Op.eqFields,ne_eq,hn f (by simp),not_false_eq_true,NS,NA,hpart hu1,hpart hv1,Nh,k1];cases b1
    ·simp
    ·simp[ih]
   ·cases h
  ·cases h
theorem rR{Ω:Om}{x:AV}{cs:List AV}{v:Value}(h:V Ω x v)(hc:ox x=some cs):∃vs:List Value,v=.agg vs.toArray/\VL Ω cs vs:=by
 unfold ox at hc;split at hc
 ·simp at hc;subst hc;exact h.agg_inv
 ·simp at hc;subst hc
  cases h with|st _ _ v hv=>exact hv.agg_inv
 ·cases hc
theorem JR(hT:cq P C.tbl){o:Oper}{op:BinOp}{t t':Nat}{x y:Operand}(hop:o.op=.binOp op t x y t'){a:Act}{Ω:Om}{cs ds:List AV}{xs ys:List Value}
 (hx:VL Ω cs xs)(hxv:a.eval x=.agg xs.toArray)(hyl:VL Ω ds ys)(hyv:a.eval y=.agg ys.toArray){eff:Eff}(he:AT C op t cs ds=some eff) :
  eff.upd=[]/\∃v,(execOp a.eval o).run P Ω.w=.ok (.value v) Ω.w/\V Ω eff.val v:=by
 unfold AT at he;split at he
 ·rename_i fs sz by' z ty hr
  split at he
  ·rename_i b hb;obtain⟨d,hd1,hd2⟩:=bJ hT hr rfl;obtain⟨e1,e2⟩:=(hT _ _ hr).eqs fs rfl;cases d<;>try (simp[bS]at hd2;done)
   rename_i fields;simp only[bS,N4,N8,Ng]at hd2;obtain⟨hf1,hf2⟩:=hd2;have hfo:P.fieldsOf t=fields:=by simp[Program.fieldsOf,hd1]
   have hrun:(Op.equalIn 10000 t (.agg xs.toArray) (.agg ys.toArray)).run P Ω.w=.ok b Ω.w:=by rw[run_equalIn_struct Ω.w 9999 t _ _ (by rw[hfo];exact hd1) e1,hfo];exact oB hT hx hyl 9998 Ω.w fields.toList b (fun f hf=>by simpa using(hf2 f hf).2) (by rw[hf1];exact hb)
   have hg:=run_eqGuard_agg Ω.w op t x y xs.toArray ys.toArray e2;split at he
   ·simp only[Xs]at he;subst he;exact⟨rfl,.bool b,by simp[execOp,hop,hxv,hyv,hg,run_eql_struct,hrun],.bool _⟩
   ·simp only[Xs]at he;subst he;exact⟨rfl,.bool (!b),by simp[execOp,hop,hxv,hyv,hg,run_neq_struct,hrun],.bool _⟩
   ·simp at he
  ·simp at he
 ·simp at he
theorem GR(hT:cq P C.tbl){op:BinOp}{t t':Nat}{x y:Operand}(hop:o.op=.binOp op t x y t'):dq P C o:=by
 refine dq.pure fun F s a Ω eff h he ho=>?_;simp only[aQ,hop]at he;have hx:=ct h x;have hy:=ct h y;split at he
 ·rename_i k m k' n hm hn;rw[hm]at hx;rw[hn]at hy;split at he
  ·rename_i hk;subst hk;obtain⟨hx1,hx2⟩:=hx.int_inv;obtain⟨hy1,hy2⟩:=hy.int_inv;obtain⟨h1,v,h2,h3⟩:=JP (P:=P) (Ω:=Ω) (t:=t) (w:=Ω.w) he ho hx2 hy2;exact⟨h1,v,by simp[execOp,hop,hx1,hy1,E3,h2],h3⟩
  ·simp at he
 ·rename_i m n hm hn;rw[hm]at hx;rw[hn]at hy;obtain⟨hx1,hx2⟩:=hx.str_inv;obtain⟨hy1,hy2⟩:=hy.str_inv;obtain⟨h1,v,h2,h3⟩:=JQ (P:=P) (Ω:=Ω) (t:=t) (w:=Ω.w) he ho;exact⟨h1,v,by simp[execOp,hop,hx1,hy1,E4,h2],h3⟩
 ·rename_i m n hm hn;rw[hm]at hx;rw[hn]at hy;have hx1:=hx.bool_inv;have hy1:=hy.bool_inv;split at he
  ·rename_i sz by' z ty hr
   obtain⟨d,hd1,hd2⟩:=bJ hT hr rfl;cases d<;>simp[bS]at hd2;obtain⟨h1,v,h2,h3⟩:=GQ (P:=P) (Ω:=Ω) (t:=t) (w:=Ω.w) hd1 he;exact⟨h1,v,by simp[execOp,hop,hx1,hy1,B3,h2],h3⟩
  ·simp at he
 ·rename_i n m hm hn;rw[hm]at hx;rw[hn]at hy;split at he
  ·rename_i e sz by' z ty hr
   obtain⟨d,hd1,hd2⟩:=bJ hT hr rfl;cases d<;>simp[bS]at hd2
   have key:∃p,a.eval x=.pointer p/\p.isNone=m.isNone/\p.isSome=m.isSome:=by
    generalize a.eval x=xv at hx
    cases hx with
    |ptNone _=>exact⟨none,rfl,rfl,rfl⟩
    |ptSome _ _ _ hv=>cases hv with|cptr _ b off vals _ _=>exact⟨_,rfl,rfl,rfl⟩
   obtain⟨p,hp,hp1,hp2⟩:=key;have hy1:a.eval y=.pointer none:=by generalize a.eval y=yv at hy;cases hy;rfl
   have hq:(Op.equal t (.pointer p) (.pointer none)).run P Ω.w=.ok p.isNone Ω.w:=by unfold Op.equal Op.maxDepth Op.equalIn;simp only[NA,bQ hd1,Nh];cases p<;>rfl
   have hg:(eqGuard op t x y (.pointer p) (.pointer none)).run P Ω.w=.ok () Ω.w:=by cases op<;>rfl
   split at he
   ·simp only[Xs]at he;subst he;exact⟨rfl,.bool m.isNone,by rw[<-hp1];simp[execOp,hop,hp,hy1,hg,binOp,hq],.bool _⟩
   ·simp only[Xs]at he;subst he;exact⟨rfl,.bool m.isSome,by rw[<-hp2];simp[execOp,hop,hp,hy1,hg,binOp,hq],.bool _⟩
   ·simp at he
  ·simp at he
 ·rename_i ti ia hm hn;rw[hm]at hx;rw[hn]at hy;split at he
  ·rename_i sz by' z ty hr
   obtain⟨d,hd1,hd2⟩:=bJ hT hr rfl;cases d<;>simp[bS]at hd2;have key:∃v,a.eval x=.iface ti v:=by generalize a.eval x=xv at hx;cases hx;exact⟨_,rfl⟩
   obtain⟨xv,hp⟩:=key;have hy1:a.eval y=.nilIface:=by generalize a.eval y=yv at hy;cases hy;rfl
   have hq:(Op.equal t (.iface ti xv) .nilIface).run P Ω.w=.ok false Ω.w:=by unfold Op.equal Op.maxDepth Op.equalIn;simp only[NA,bQ hd1,Nh];rfl
   have hg:(eqGuard op t x y (.iface ti xv) .nilIface).run P Ω.w=.ok () Ω.w:=by cases op<;>rfl
   split at he
   ·simp only[Xs]at he;subst he;exact⟨rfl,.bool false,by simp[execOp,hop,hp,hy1,hg,binOp,hq],.bool _⟩
   ·simp only[Xs]at he;subst he;exact⟨rfl,.bool true,by simp[execOp,hop,hp,hy1,hg,binOp,hq],.bool _⟩
   ·simp at he
  ·simp at he
 ·rename_i hm hn;rw[hm]at hx;rw[hn]at hy;split at he
  ·rename_i sz by' z ty yc hr
   obtain⟨d,hd1,hd2⟩:=bJ hT hr rfl;cases d<;>simp[bS]at hd2;have hp:a.eval x=.nilIface:=by generalize a.eval x=xv at hx;cases hx;rfl
   have hy1:a.eval (.const yc)=.nilIface:=by generalize a.eval (.const yc)=yv at hy;cases hy;rfl
   have hq:(Op.equal t .nilIface .nilIface).run P Ω.w=.ok true Ω.w:=by unfold Op.equal Op.maxDepth Op.equalIn;simp only[NA,bQ hd1,Nh];rfl
   have hg:(eqGuard op t x (.const yc) .nilIface .nilIface).run P Ω.w=.ok () Ω.w:=by
    cases op<;>first|rfl|(simp[eqGuard])|(cases x<;>rfl)
   split at he
   ·simp only[Xs]at he;subst he;exact⟨rfl,.bool true,by simp[execOp,hop,hp,hy1,hg,binOp,hq],.bool _⟩
   ·simp only[Xs]at he;subst he;exact⟨rfl,.bool false,by simp[execOp,hop,hp,hy1,hg,binOp,hq],.bool _⟩
   ·simp at he
  ·simp at he
 ·split at he
  ·rename_i cs ds hc hd;obtain⟨xs,hxv,hxl⟩:=rR hx hc;obtain⟨ys,hyv,hyl⟩:=rR hy hd;exact JR hT hop hxl hxv hyl hyv he
  ·simp at he
theorem JS{op:UnOp}{t:Nat}{x:Operand}(hop:o.op=.unOp op t x):dq P C o:=by
 refine dq.pure fun F s a Ω eff h he ho=>?_;simp only[aQ,hop]at he;have hx:=ct h x;split at he
 ·rename_i b hb;rw[hb]at hx;simp only[Xs]at he;subst he;exact⟨rfl,.bool (!b),by simp[execOp,hop,hx.bool_inv,Op.unary],.bool _⟩
 ·rename_i k n hn;rw[hn]at hx;simp only[Xs]at he;subst he;obtain⟨h1,h2⟩:=ho;have e:=jH k _ h1 h2;exact⟨rfl,.int k (0-n),by simp only[execOp,hop,hx.int_inv.1,Op.unary,Op.intArith,e];simp,.int k _ h1 h2⟩
 ·simp at he
theorem lQ{w:World}{b off:Nat}{f:Field}{i:TypeInfo}(hi:P.info? f.type=some i)(h0:i.size≠0) :
  (fieldPlace ⟨b,off,none⟩ f).run P w=.ok ⟨b,off+f.offset,none⟩ w:=by
 simp only[fieldPlace,NA,eE hi,Nh];rw[N3 h0];simp[Addr.add]
theorem oC(hT:cq P C.tbl){t:Nat}{r:TR}(hr:bE C.tbl t=some r){f off ft:Nat}(hf:rh r f=some (off,ft)) :
  ∃fields fd i,P.underlying t=some (.struct fields)/\fields[f]?=some fd/\fd.offset=off/\fd.type=ft/\P.info? ft=some i/\i.size≠0:=by
 unfold rh at hf;split at hf
 ·rename_i fs hti;obtain⟨d,hd1,hd2⟩:=bJ hT hr hti;cases d<;>simp[bS]at hd2;rename_i fields;obtain⟨h1,h2⟩:=hd2;rw[lM,<-h1]at hf;simp only[NM,NH,NB]at hf;obtain⟨fd,hfd,e⟩:=hf;simp at e;have hm:fd∈fields:=Array.mem_of_getElem? hfd;obtain⟨j,hj,hje⟩:=Po.1 hm;have:=h2 j hj;rw[hje]at this;split at this
  ·rename_i i hi;exact⟨fields,fd,i,hd1,hfd,e.1,e.2,by rw[<-e.2];exact hi,fun h0=>by simp[h0]at this⟩
  ·simp at this
 ·simp at hf
theorem wh(hT:cq P C.tbl){t f:Nat}{x:Operand}(hop:o.op=.fieldAddr t x f):dq P C o:=by
 refine dq.pure fun F s a Ω eff h he ho=>?_;simp only[aQ,hop]at he;have hx:=ct h x;split at he
 ·rename_i r hr;split at he
  ·rename_i off ft id o' hf hopd;simp only[Xs]at he;subst he;rw[hopd]at hx;obtain⟨b,bo,len,hxv,hxb⟩:=hx.ptr_inv;obtain⟨fields,fd,i,h1,h2,h3,h4,h5,h6⟩:=oC hT hr hf;refine⟨rfl,.pointer (some ⟨b,bo+o'+off,none⟩),?_,?_⟩
   ·simp[execOp,hop,hxv,Instr.fieldAt,bQ h1,h2,Instr.sureAddr,lQ (P:=P) (w:=Ω.w) (b:=b) (off:=bo+o') (f:=fd) (by rw[h4];exact h5) h6,h3]
   ·have:=V.ptr (Ω:=Ω) id (o'+off) b bo len hxb
    rwa [<-OR]at this
  ·rename_i off ft id n w o' hf hopd;simp only[Xs]at he;subst he;rw[hopd]at hx;obtain⟨b,bo,len,hxv,hxb⟩:=hx.aptr_inv;obtain⟨fields,fd,i,h1,h2,h3,h4,h5,h6⟩:=oC hT hr hf;refine⟨rfl,.pointer (some ⟨b,bo+(n *w+o')+off,none⟩),?_,?_⟩
   ·simp[execOp,hop,hxv,Instr.fieldAt,bQ h1,h2,Instr.sureAddr,lQ (P:=P) (w:=Ω.w) (b:=b) (off:=bo+(n *w+o')) (f:=fd) (by rw[h4];exact h5) h6,h3]
   ·have:=V.aptr (Ω:=Ω) id n w (o'+off) b bo len hxb;have e:bo+(n *w+o')+off=bo+(n *w+(o'+off)):=by omega
    rw[e];exact this
  ·rename_i off ft c hf hopd;rw[hopd]at hx;obtain⟨fields,fd,i,h1,h2,h3,h4,h5,h6⟩:=oC hT hr hf
   have gy:∀{c':AV},V Ω (.cptr c) (a.eval x)->(∃n,(aa c').length<=n/\sub (aa c) off (aa c').length=some (aa c'))->
     eff=.pure (.cptr c')->eff.upd=[]/\∃v,(execOp a.eval o).run P Ω.w=.ok (.value v) Ω.w/\V Ω eff.val v:=by
    intro c' hx hs he;obtain⟨_,_,hs⟩:=hs;subst he;obtain⟨s1,s2⟩:=iS hs;generalize hxe:a.eval x=xv at hx
    cases hx with
    |cptr _ b o' vals k1 k2=>
     refine⟨rfl,.pointer (some ⟨b,o'+off,none⟩),?_,?_⟩
     ·simp[execOp,hop,hxe,Instr.fieldAt,bQ h1,h2,Instr.sureAddr,lQ (P:=P) (w:=Ω.w) (b:=b) (off:=o') (f:=fd) (by rw[h4];exact h5) h6,h3]
     ·simp only[Eff.pure]
      have key:∀(j:Nat)(d:AV),(aa c')[j]?=some d->(aa c)[off+j]?=some d:=by
       intro j d hd;rw[s2,NP]at hd;split at hd
       ·rwa [O6]at hd
       ·cases hd
      refine .cptr _ b _ (fun j=>vals (off+j)) (fun j d hd=>?_) (fun j d hd=>k2 _ _ (key j d hd));have:=k1 _ _ (key j d hd)
      rwa [<-OR]at this
   have drops:∀{c1:AV} {r1:List AV},nq (aa c) off=some (c1::r1)->∃n,(aa (.agg (c1::r1))).length<=n/\sub (aa c) off (aa (.agg (c1::r1))).length=some (aa (.agg (c1::r1))):=by intro c1 r1 hdr;exact⟨_,Nf _,xT hdr⟩
   split at he
   ·rename_i n y m hrt hft;split at he
    ·rename_i m' z hz;split at he
     ·rename_i hm;simp only[Xs]at he;refine gy hx ⟨_,Nf _,?_⟩ he.symm;have hs:=lO hz;rw[<-bG]at hs;exact hs
     ·simp at he
    ·split at he
     ·rename_i hdr;simp only[Xs]at he;exact gy hx (drops hdr) he.symm
     ·simp at he
   ·split at he
    ·rename_i hdr;simp only[Xs]at he;exact gy hx (drops hdr) he.symm
    ·simp at he
  ·simp at he
 ·simp at he
theorem GS{w:World}{t:Nat}{r:TR}(ht:TF P t r){cs ds:List AV}{x:AV}{off:Nat}{Ω:Om}{vs:List Value}(hv:VL Ω cs vs)
 (hs:sub cs off r.size=some ds)(ho:eC r ds=some x):∃v,(part t vs.toArray off).run P w=.ok v w/\V Ω x v:=by
 have hd:=hv.sub hs;obtain⟨s1,s2⟩:=iS hs;unfold eC at ho;simp only[part,NA,ht.agg,Nh];split at ho
 ·rename_i hagg;simp at ho;subst ho;rw[hagg];simp only[NS,NA,ht.size,Nh];refine⟨_,rfl,?_⟩;have e:vs.toArray.extract off (off+r.size)=((vs.drop off).take r.size).toArray:=by apply Ob;simp[List.extract_eq_take_drop]
  rw[e];exact V.of_agg hd
 ·rename_i hagg;have hagg':r.isAgg=false:=by simpa using hagg
  rw[hagg'];split at ho
  ·rename_i c;simp at ho;subst ho;have hl:=hd.1;generalize hds:(vs.drop off).take r.size=us at hd hl
   cases us with
   |nil=>simp at hl
   |cons v us=>
    cases us with
    |cons _ _=>simp at hl
    |nil=>
     have hv0:vs[off]?=some v:=by
      have e1:((vs.drop off).take r.size)[0]?=some v:=by rw[hds];rfl
      rw[NP]at e1;split at e1
      ·rw[O6]at e1;simpa using e1
      ·simp at e1
     exact⟨v,by simp[hv0],hd.head⟩
  ·simp at ho
theorem GU(hT:cq P C.tbl){t f:Nat}{x:Operand}(hop:o.op=.field t x f):dq P C o:=by
 refine dq.pure fun F s a Ω eff h he ho=>?_;simp only[aQ,hop]at he;have hx:=ct h x;split at he
 ·rename_i r hr;split at he
  ·rename_i off ft hf;obtain⟨fields,fd,i,h1,h2,h3,h4,h5,h6⟩:=oC hT hr hf
   have go:∀{rt:TR} {c:AV} {vs:List Value},bE C.tbl ft=some rt->a.eval x=.agg vs.toArray->VL Ω (aa c) vs->(nr rt c off).map Eff.pure=some eff->
     eff.upd=[]/\∃v,(execOp a.eval o).run P Ω.w=.ok (.value v) Ω.w/\V Ω eff.val v:=by
    intro rt c vs hrt hxv hvl he;simp only[NB]at he;obtain⟨av,ho1,rfl⟩:=he;obtain⟨ds,z,q1,q2,q3⟩:=qy (hT ft rt hrt) ho1;obtain⟨v,hv1,hv2⟩:=GS (P:=P) (w:=Ω.w) (hT ft rt hrt).tf hvl q1 q2;exact⟨rfl,v,by simp[execOp,hop,hxv,Instr.field,bQ h1,h2,asAgg,h4,h3,hv1],q3 _ _ hv2⟩
   split at he
   ·rename_i rt cs hrt hopd;rw[hopd]at hx;obtain⟨vs,hxv,hvl⟩:=hx.agg_inv;exact go (c:=.agg cs) hrt hxv hvl he
   ·rename_i rt n y hrt hopd;rw[hopd]at hx;split at he
    ·generalize hxe:a.eval x=xv at hx
     cases hx with
     |st _ _ _ hx=>obtain⟨vs,hxv,hvl⟩:=hx.agg_inv;exact go (c:=.st n y) hrt (by rw[hxe,hxv]) hvl he
    ·simp at he
   ·simp at he
  ·simp at he
 ·simp at he
end
end Go.AL
end
section
namespace Go.AL
variable [Tabs]
section
variable {P:Program} {C:Cfg} {o:Oper}
theorem ke{τ σ:Ty}{xs:List (den τ)}{ys:List (den σ)}(h:lI τ σ xs=some ys):∃e:τ=σ,e ▸ xs=ys:=by
 unfold lI at h;split at h
 ·rename_i e;simp at h;exact⟨e,h⟩
 ·simp at h
theorem fR{k:IntKind}{n:Int}:asIntOf (.int k n)=pure (k,n):=rfl
theorem V.lst_inv{Ω:Om}{τ:Ty}{xs:List (den τ)}{o:Option Nat}{v:Value}(h:V Ω (.lst τ xs o) v) :
  (xs=[]/\v=.slice none 0 0/\ie Ω o 0 v)∨(xs=[]/\o=none/\∃a,v=.slice (some a) 0 0)∨
  ∃b off cap,∃vals:Nat->Nat->Value,v=.slice (some ⟨b,off,none⟩) xs.length cap/\xs.length<=cap/\cap<=cm/\ie Ω o xs.length v/\
   (∀(i:Nat)(x:den τ),xs[i]?=some x->∀(j:Nat)(c:AV),(cells τ x)[j]?=some c->
    Ω.pub b (off+(i *ag τ+j))/\Ω.w.cell? ⟨b,off+(i *ag τ+j),none⟩=some (vals i j))/\
   (∀(i:Nat)(x:den τ),xs[i]?=some x->∀(j:Nat)(c:AV),(cells τ x)[j]?=some c->V Ω c (vals i j)):=by
 cases h with|lstNil _ _ ht=>exact Or.inl ⟨rfl,rfl,ht⟩|lstVoid _ a=>exact Or.inr (Or.inl ⟨rfl,rfl,a,rfl⟩)|lst _ _ _ b off cap vals h1 h2 h3 h4 h5=>exact Or.inr (Or.inr ⟨b,off,cap,vals,rfl,h1,h2,h3,h4,h5⟩)
theorem V.elem{Ω:Om}{τ:Ty}{xs:List (den τ)}{b off:Nat}{vals:Nat->Nat->Value}(i:Nat)(hi:i<xs.length)
 (h4:∀(i:Nat)(x:den τ),xs[i]?=some x->∀(j:Nat)(c:AV),(cells τ x)[j]?=some c->
    Ω.pub b (off+(i *ag τ+j))/\Ω.w.cell? ⟨b,off+(i *ag τ+j),none⟩=some (vals i j))
 (h5:∀(i:Nat)(x:den τ),xs[i]?=some x->∀(j:Nat)(c:AV),(cells τ x)[j]?=some c->V Ω c (vals i j))(d:den τ) :
  V Ω (.cptr (inj τ (xs.getD i d))) (.pointer (some ⟨b,off+i *ag τ,none⟩)):=by
 have e:xs[i]?=some (xs.getD i d):=by simp[Nb,hi]
 refine .cptr _ b _ (fun j=>vals i j) (fun j c hc=>?_) (fun j c hc=>h5 i _ e j c (by rwa [mM]at hc));rw[mM]at hc;have:=h4 i _ e j c hc;rw[OR];exact this
theorem wi(hT:cq P C.tbl){t:Nat}{x y:Operand}(hop:o.op=.indexAddr t x y):dq P C o:=by
 refine dq.pure fun F s a Ω eff h he ho=>?_;simp only[aQ,hop]at he;have hx:=ct h x;have hy:=ct h y;split at he
 ·rename_i e sz by' z ty τ xs o' k n hr hopx hopy
  rw[hopx]at hx;rw[hopy]at hy;split at he
  ·rename_i re hre;split at he
   ·rename_i hty;simp only[Xs]at he;subst he;obtain⟨ho1,ho2⟩:=ho;obtain⟨d,hd1,hd2⟩:=bJ hT hr rfl;cases d<;>simp[bS]at hd2;subst hd2;obtain⟨i,zz,i1,i2,i3,i4,i5⟩:=(hT _ _ hre).info;have hw:=((hT _ _ hre).ty τ hty).1;obtain⟨hy1,hy2⟩:=hy.int_inv;rcases hx.lst_inv with⟨h1,_,_⟩|⟨h1,_,_⟩|⟨b,off,cap,vals,hv,h1,h2,h3,h4,h5⟩
    ·subst h1;simp at ho2;omega
    ·subst h1;simp at ho2;omega
    ·refine⟨rfl,.pointer (some ⟨b,off+n.toNat *ag τ,none⟩),?_,V.elem n.toNat (by omega) h4 h5 _⟩;have c1:(0<=n/\n<(xs.length:Int)):=⟨ho1,ho2⟩;simp[execOp,hop,hv,hy1,Instr.indexAt,fR,bQ hd1,c1,eE i1,i2,<-hw,Addr.add]
   ·simp at he
  ·simp at he
 ·rename_i e sz by' z ty id m w k n hr hopx hopy
  rw[hopx]at hx;rw[hopy]at hy;split at he
  ·rename_i re hre;split at he
   ·rename_i hty;subst hty;simp only[Xs]at he;subst he;obtain⟨ho1,ho2⟩:=ho;obtain⟨d,hd1,hd2⟩:=bJ hT hr rfl;cases d<;>simp[bS]at hd2;subst hd2;obtain⟨i,zz,i1,i2,i3,i4,i5⟩:=(hT _ _ hre).info;obtain⟨hy1,hy2⟩:=hy.int_inv;generalize hxe:a.eval x=xv at hx
    cases hx with
    |arr _ _ _ b len cap a' he hl hc1 hc2 hc3=>
     rcases hc3 with rfl|⟨_,h0,_⟩;rotate_left
     ·omega
     refine⟨rfl,.pointer (some ⟨b,n.toNat *re.size,none⟩),?_,?_⟩
     ·have c1:(0<=n/\n<(m:Int)):=⟨ho1,ho2⟩;simp[execOp,hop,hxe,hy1,Instr.indexAt,fR,bQ hd1,c1,eE i1,i2,Addr.add];exact fun h0=>h0.symm
     ·have:=V.aptr (Ω:=Ω) id n.toNat re.size 0 b 0 len he;simpa using this
   ·simp at he
  ·simp at he
 ·rename_i e sz by' z ty τ xs k k' n hr hopx hopy
  rw[hopx]at hx;rw[hopy]at hy;split at he
  ·rename_i re hre;split at he
   ·rename_i hty;simp only[Xs]at he;subst he;have ho1:n=(xs.length:Int):=ho;obtain⟨d,hd1,hd2⟩:=bJ hT hr rfl;cases d<;>simp[bS]at hd2;subst hd2;obtain⟨i,zz,i1,i2,i3,i4,i5⟩:=(hT _ _ hre).info;have hw:=((hT _ _ hre).ty τ hty).1;obtain⟨hy1,hy2⟩:=hy.int_inv;generalize hxe:a.eval x=xv at hx
    cases hx with
    |lstp _ _ _ b off cap vals h1 h2 h3 h4 h5=>
     refine⟨rfl,.pointer (some ⟨b,off+xs.length *ag τ,none⟩),?_,.tptr τ xs.length k _ ?_⟩
     ·have c1:(0<=n/\n<((xs.length+1:Nat):Int)):=⟨by omega,by omega⟩;have c2:n.toNat=xs.length:=by omega
      have c3:n<(xs.length:Int)+1:=by omega
      simp[execOp,hop,hxe,hy1,Instr.indexAt,fR,bQ hd1,c1,c2,eE i1,i2,<-hw,Addr.add,c3]
     ·obtain⟨m,base,cap',r1,r2,r3⟩:=h3 k rfl;refine⟨m,base,cap',r1,r2,fun e=>?_⟩;have:=r3 e
      cases base with
      |none=>simp[eK]at this
      |some b'=>simp only[eK,Od,Xs,OX,NZ,NX]at this;obtain⟨⟨rfl,rfl⟩,_⟩:=this;exact⟨b,rfl,by simp⟩
   ·simp at he
  ·simp at he
 ·rename_i e m sz by' z ty id k n hr hopx hopy
  rw[hopx]at hx;rw[hopy]at hy;split at he
  ·rename_i re hre;simp only[Xs]at he;subst he;obtain⟨ho1,ho2⟩:=ho;obtain⟨d,hd1,hd2⟩:=bJ hT hr rfl;cases d<;>simp[bS]at hd2;obtain⟨rfl,rfl⟩:=hd2;obtain⟨i,zz,i1,i2,i3,i4,i5⟩:=(hT _ _ hre).info;obtain⟨hy1,hy2⟩:=hy.int_inv;generalize hxe:a.eval x=xv at hx
   cases hx with
   |ptr _ _ b o len he=>
    refine⟨rfl,.pointer (some ⟨b,o+n.toNat *re.size,none⟩),?_,?_⟩
    ·have c1:(0<=n/\n<(m:Int)):=⟨ho1,ho2⟩;simp[execOp,hop,hxe,hy1,Instr.indexAt,Instr.sureAddr,fR,bQ hd1,c1,eE i1,i2,Addr.add]
    ·have:=V.aptr (Ω:=Ω) id n.toNat re.size 0 b o len he;simpa using this
  ·simp at he
 ·simp at he
theorem GV(hT:cq P C.tbl){t:Nat}{x y:Operand}(hop:o.op=.index t x y):dq P C o:=by
 refine dq.pure fun F s a Ω eff h he ho=>?_;simp only[aQ,hop]at he;have hx:=ct h x;have hy:=ct h y;split at he
 ·rename_i sz by' z ty s' k n hr hopx hopy
  rw[hopx]at hx;rw[hopy]at hy;simp only[Xs]at he;subst he;obtain⟨ho1,ho2⟩:=ho;obtain⟨d,hd1,hd2⟩:=bJ hT hr rfl;cases d<;>simp[bS]at hd2;obtain⟨hy1,hy2⟩:=hy.int_inv;obtain⟨hx1,hx2⟩:=hx.str_inv;have hlt:n.toNat<s'.length:=by omega
  have hb:(⟨s'.toArray⟩:ByteArray)[n.toNat]?=some s'[n.toNat]:=by
   have e:n.toNat<(⟨s'.toArray⟩:ByteArray).size:=by simpa[ByteArray.size]using hlt
   exact getElem?_pos (⟨s'.toArray⟩:ByteArray) n.toNat e
  refine⟨rfl,.int .u8 (s'[n.toNat].toNat:Int),?_,?_⟩
  ·simp only[execOp,hop,hx1,hy1,Instr.index,fR,NA,NN,Nh,bQ hd1];rw[N6 ho1,hb];rfl
  ·have e:s'.getD n.toNat 0=s'[n.toNat]:=by simp[Nb,hlt]
   rw[e];refine .int .u8 _ ?_ ?_
   ·simp[IntKind.min,IntKind.signed]
   ·have:=s'[n.toNat].toNat_lt;simp[IntKind.max,IntKind.signed,IntKind.bits];omega
 ·simp at he
theorem lR{F:Fr}{s:AS}{a:Act}{Ω:Om}(h:Holds F s a Ω){x:Option Operand}{n:Option Int}(hb:bnd s.T x=some n) :
  x.map a.eval=n.map fun n=>.int .i64 n:=by
 cases x with
 |none=>simp[bnd]at hb;subst hb;rfl
 |some x=>
  simp only[bnd]at hb;split at hb
  ·rename_i m hm;simp at hb;subst hb;have:=ct h x;rw[hm]at this;simp[this.int_inv.1]
  ·simp at hb
theorem mN{w:World}{n:Int}{y:Nat}{code:BoundsCode}(h0:0<=n)(h1:n<=(y:Int)):(Instr.sliceBound (.int .i64 n) y code).run P w=.ok n.toNat w:=by simp[Instr.sliceBound,fR,h0,h1]
theorem kQ{w:World}{isSlice:Bool}{len cap:Nat}{l h:Option Int}(hl:0<=l.getD 0)(hlh:l.getD 0<=h.getD len)(hh:h.getD len<=len)(hc:len<=cap) :
  (Instr.sliceBounds isSlice len cap (l.map fun n=>.int .i64 n) (h.map fun n=>.int .i64 n) none).run P w=
   .ok ((l.getD 0).toNat,(h.getD len).toNat,cap) w:=by
 cases l<;>cases h<;>simp[Instr.sliceBounds]at *<;> (try simp[mN, *])
 ·rename_i h';have:(h':Int)<=cap:=by omega
  rw[mN hlh this];simp
 ·rename_i l' h';have:(h':Int)<=cap:=by omega
  rw[mN (by omega) this];simp;rw[mN hl (by omega)];simp
theorem GW(hT:cq P C.tbl){t:Nat}{x:Operand}{lo hi:Option Operand}(hop:o.op=.slice t x lo hi none):dq P C o:=by
 refine dq.pure fun F s a Ω eff h he ho=>?_;simp only[aQ,hop,GK]at he;have hx:=ct h x;split at he
 ·rename_i sz by' z ty s' l u hr hopx hlo hhi
  rw[hopx]at hx;simp only[Xs]at he;subst he;obtain⟨ho1,ho2,ho3⟩:=ho;obtain⟨d,hd1,hd2⟩:=bJ hT hr rfl;cases d<;>simp[bS]at hd2;obtain⟨hx1,hx2⟩:=hx.str_inv;have hb:=kQ (P:=P) (w:=Ω.w) (isSlice:=false) (len:=s'.length) (cap:=s'.length) ho1 ho2 ho3 (Nf _);have e:(⟨s'.toArray⟩:ByteArray).extract (l.getD 0).toNat (u.getD s'.length).toNat=⟨((s'.take (u.getD s'.length).toNat).drop (l.getD 0).toNat).toArray⟩:=by apply ByteArray.ext;apply Ob;simp[List.extract_eq_take_drop,List.drop_take]
  refine⟨rfl,.string ⟨((s'.take (u.getD s'.length).toNat).drop (l.getD 0).toNat).toArray⟩,?_,.str _ ?_⟩
  ·simp only[execOp,hop,hx1,Instr.sliceAt,Instr.slice,NA,bQ hd1,Nh,lR h hlo,lR h hhi,PX];simp only[Option.isSome_none,NC,ND,NA];have hsz:(⟨s'.toArray⟩:ByteArray).size=s'.length:=rfl;rw[hsz,hb];simp[e]
  ·have:((s'.take (u.getD s'.length).toNat).drop (l.getD 0).toNat).length<=s'.length:=by simp;omega
   omega
 ·rename_i e sz by' z ty τ xs o' l u hr hopx hlo hhi
  rw[hopx]at hx;split at he
  ·rename_i re hre;split at he
   ·rename_i hty;simp only[Xs]at he;subst he;obtain⟨ho1,ho2,ho3⟩:=ho;obtain⟨d,hd1,hd2⟩:=bJ hT hr rfl;cases d<;>simp[bS]at hd2;subst hd2;obtain⟨i,zz,i1,i2,i3,i4,i5⟩:=(hT _ _ hre).info;have hw:=((hT _ _ hre).ty τ hty).1;rcases hx.lst_inv with⟨h1,hv,_⟩|⟨h1,_,a0,hv⟩|⟨b,off,cap,vals,hv,h1,h2,h3,h4,h5⟩;rotate_left
    ·subst h1;simp only[Na]at ho2 ho3;have el:(l.getD 0).toNat=0:=by simp at ho2 ho3;omega
     have eu:(u.getD ((0:Nat):Int)).toNat=0:=by simp at ho2 ho3⊢;omega
     have hb:=kQ (P:=P) (w:=Ω.w) (isSlice:=true) (len:=0) (cap:=0) ho1 ho2 ho3 (Nf _);refine⟨rfl,.slice (some a0) 0 0,?_,?_⟩
     ·simp only[execOp,hop,hv,Instr.sliceAt,Instr.slice,NA,bQ hd1,Nh,lR h hlo,lR h hhi,PX];rw[hb];simp only[el,eu,Nh,eE i1,NN];simp
     ·have e0:∀m n:Nat,(([]:List (den τ)).take m).drop n=[]:=by simp
      show V Ω (.lst τ _ none) _;rw[e0];exact .lstVoid τ a0
    rotate_right
    ·subst h1;simp only[Na]at ho2 ho3;have el:(l.getD 0).toNat=0:=by simp at ho2 ho3;omega
     have eu:(u.getD ((0:Nat):Int)).toNat=0:=by simp at ho2 ho3⊢;omega
     have hb:=kQ (P:=P) (w:=Ω.w) (isSlice:=true) (len:=0) (cap:=0) ho1 ho2 ho3 (Nf _);refine⟨rfl,.slice none 0 0,?_,?_⟩
     ·simp only[execOp,hop,hv,Instr.sliceAt,Instr.slice,NA,bQ hd1,Nh,lR h hlo,lR h hhi,PX];rw[hb];simp only[el,eu,Nh,eE i1,NN];simp
     ·have e0:∀m n:Nat,(([]:List (den τ)).take m).drop n=[]:=by simp
      show V Ω (.lst τ _ none) _;rw[e0];exact .lstNil τ none (fun id hid=>by simp at hid)
    ·have hb:=kQ (P:=P) (w:=Ω.w) (isSlice:=true) (len:=xs.length) (cap:=cap) ho1 ho2 ho3 h1;generalize hln:(l.getD 0).toNat=ln at *
     generalize hun:(u.getD (xs.length:Int)).toNat=un at *
     have hle:ln<=un:=by omega
     have hue:un<=xs.length:=by omega
     have hlen:((xs.take un).drop ln).length=un-ln:=by simp;omega
     have hsz:i.size=ag τ:=by rw[i2,<-hw]
     have hget:∀(j:Nat)(y:den τ),((xs.take un).drop ln)[j]?=some y->xs[ln+j]?=some y:=by
      intro j y hj;rw[O6,NP]at hj;split at hj
      ·exact hj
      ·simp at hj
     refine⟨rfl,.slice (some (if cap=ln then⟨b,off,none⟩else⟨b,off+ln *ag τ,none⟩)) (un-ln) (cap-ln),?_,?_⟩
     ·simp only[execOp,hop,hv,Instr.sliceAt,Instr.slice,NA,bQ hd1,Nh,lR h hlo,lR h hhi,PX];rw[hb];simp[eE i1,hsz,Addr.add];split
      ·rfl
      ·simp
     ·by_cases hcl:cap=ln
      ·rw[N6 hcl];have:un=ln:=by omega
       have hnil:(xs.take un).drop ln=[]:=Ni (by omega);rw[hnil];have:=V.lst (Ω:=Ω) τ [] none b off (cap-ln) (fun _ _=>undef) (by simp) (by omega) (fun id hid=>by simp at hid) (fun i x hx=>by simp at hx) (fun i x hx=>by simp at hx);simpa[show un-ln=0 from by omega]using this
      ·rw[N3 hcl];rw[<-hlen];refine .lst τ _ none b _ (cap-ln) (fun j=>vals (ln+j)) (by omega) (by omega) (fun id hid=>by simp at hid) (fun j y hj k c hc=>?_) (fun j y hj k c hc=>?_)
       ·have:=h4 _ y (hget j y hj) k c hc;have e:off+ln *ag τ+(j *ag τ+k)=off+((ln+j) *ag τ+k):=by rw[NT];omega
        rw[e];exact this
       ·exact h5 _ y (hget j y hj) k c hc
   ·simp at he
  ·simp at he
 ·simp at he
theorem B4{x:Operand}{i:Nat}(hop:o.op=.extract x i):dq P C o:=by
 refine dq.pure fun F s a Ω eff h he ho=>?_;simp only[aQ,hop]at he;have hx:=ct h x;split at he
 ·rename_i cs hcs;rw[hcs]at hx;obtain⟨vs,hv,hvl⟩:=hx.tup_inv;simp only[NB]at he;obtain⟨c,hc,rfl⟩:=he;rw[lM]at hc
  have hi:i<vs.length:=by
   rw[<-hvl.1];rcases Nv i cs.length with k|k
   ·exact k
   ·rw[Nd k]at hc;simp at hc
  refine⟨rfl,vs[i],?_,hvl.2 i c _ hc (N9 hi)⟩;simp[execOp,hop,hv,Instr.extract,hi]
 ·simp at he
theorem kR{n:Nat}(h:n<=cm):IntKind.i64.min<=(n:Int)/\(n:Int)<=IntKind.i64.max:=by unfold cm at h;simp[IntKind.min,IntKind.max,IntKind.signed,IntKind.bits];omega
theorem Lq(hT:cq P C.tbl){args:Array Operand}{ts:Array Nat}(hop:o.op=.call {callee:=.builtin .len,args:=args,argTypes:=ts}):dq P C o:=by
 refine dq.pure fun F s a Ω eff h he ho=>?_;simp only[aQ,hop,lenF]at he;split at he
 ·rename_i x t hargs hts;have ha:args=#[x]:=by apply Ob;simpa using hargs
  have ht:ts=#[t]:=by apply Ob;simpa using hts
  subst ha ht;have hx:=ct h x;split at he
  ·rename_i sz by' z ty s' hr hopx
   rw[hopx]at hx;simp only[Xs]at he;subst he;obtain⟨d,hd1,hd2⟩:=bJ hT hr rfl;cases d<;>simp[bS]at hd2;obtain⟨hx1,hx2⟩:=hx.str_inv;obtain⟨b1,b2⟩:=kR hx2;refine⟨rfl,.int .i64 (s'.length:Int),?_,.int .i64 _ b1 b2⟩;simp[execOp,hop,resolve,invoke,builtin,hx1,Builtin.len_,bQ hd1,goInt];rfl
  ·rename_i e sz by' z ty τ xs o' hr hopx
   rw[hopx]at hx;simp only[Xs]at he;subst he;obtain⟨d,hd1,hd2⟩:=bJ hT hr rfl;cases d<;>simp[bS]at hd2;rcases hx.lst_inv with⟨h1,hv,_⟩|⟨h1,_,a0,hv⟩|⟨b,off,cap,vals,hv,h1,h2,h3,h4,h5⟩;rotate_left
   ·subst h1;obtain⟨b1,b2⟩:=kR (n:=0) (by unfold cm;omega);refine⟨rfl,.int .i64 0,?_,.int .i64 _ b1 b2⟩;simp[execOp,hop,resolve,invoke,builtin,hv,Builtin.len_,bQ hd1,goInt]
   rotate_right
   ·subst h1;obtain⟨b1,b2⟩:=kR (n:=0) (by unfold cm;omega);refine⟨rfl,.int .i64 0,?_,.int .i64 _ b1 b2⟩;simp[execOp,hop,resolve,invoke,builtin,hv,Builtin.len_,bQ hd1,goInt]
   ·obtain⟨b1,b2⟩:=kR (n:=xs.length) (by omega);refine⟨rfl,.int .i64 (xs.length:Int),?_,.int .i64 _ b1 b2⟩;simp[execOp,hop,resolve,invoke,builtin,hv,Builtin.len_,bQ hd1,goInt]
  ·rename_i e sz by' z ty hr hopx
   rw[hopx]at hx;simp only[Xs]at he;subst he;obtain⟨d,hd1,hd2⟩:=bJ hT hr rfl;cases d<;>simp[bS]at hd2;obtain⟨b1,b2⟩:=kR (n:=0) (by unfold cm;omega);refine⟨rfl,.int .i64 0,?_,.int .i64 _ b1 b2⟩;simp[execOp,hop,resolve,invoke,builtin,hx.nils_inv,Builtin.len_,bQ hd1,goInt]
  ·rename_i e sz by' z ty id n w hr hopx
   rw[hopx]at hx;simp only[Xs]at he;subst he;obtain⟨d,hd1,hd2⟩:=bJ hT hr rfl;cases d<;>simp[bS]at hd2;generalize hxe:a.eval x=xv at hx
   cases hx with
   |arr _ _ _ b len cap a' he hl hc1 hc2 hc3=>obtain⟨b1,b2⟩:=kR (n:=n) (by omega);refine⟨rfl,.int .i64 n,?_,.int .i64 _ b1 b2⟩;simp[execOp,hop,resolve,invoke,builtin,hxe,Builtin.len_,bQ hd1,goInt]
  ·simp at he
 ·simp at he
end
end Go.AL
end
section
namespace Go.AL
variable [Tabs]
section
variable {P:Program} {C:Cfg} {o:Oper}
theorem VL.take{Ω:Om}{cs:List AV}{vs:List Value}(h:VL Ω cs vs)(n:Nat):VL Ω (cs.take n) (vs.take n):=by
 refine⟨by simp[h.1],fun j c v hc hv=>?_⟩;rw[NP]at hc hv;split at hc
 ·rename_i hj;rw[N6 hj]at hv;exact h.2 j c v hc hv
 ·simp at hc
theorem VL.drop{Ω:Om}{cs:List AV}{vs:List Value}(h:VL Ω cs vs)(n:Nat):VL Ω (cs.drop n) (vs.drop n):=by refine⟨by simp[h.1],fun j c v hc hv=>?_⟩;rw[O6]at hc hv;exact h.2 _ c v hc hv
theorem rS:∀(cs vs ds:List AV),lK cs vs=some ds->vs.length<=cs.length/\ds=vs++cs.drop vs.length
 |cs,[],ds,h=>by cases cs<;>simp[lK]at h<;>simp[h]
 |[],_::_,ds,h=>by simp[lK]at h
 |c::cs,v::vs,ds,h=>by
  simp only[lK]at h;split at h
  ·rename_i l hl;obtain⟨h1,h2⟩:=rS cs vs l hl;simp at h;exact⟨by simp;omega,by simp[<-h,h2]⟩
  ·simp at h
theorem gd:∀(cs:List AV)(off:Nat)(vs ds:List AV),splice cs off vs=some ds->
  off+vs.length<=cs.length/\ds=cs.take off++vs++cs.drop (off+vs.length)
 |cs,0,vs,ds,h=>by
  have h':lK cs vs=some ds:=by cases cs<;>simpa[splice]using h
  obtain⟨h1,h2⟩:=rS _ _ _ h';exact⟨by omega,by simp[h2]⟩
 |[],n+1,vs,ds,h=>by simp[splice]at h
 |c::cs,n+1,vs,ds,h=>by
  simp only[splice]at h;split at h
  ·rename_i l hl;obtain⟨h1,h2⟩:=gd cs n vs l hl;simp at h;refine⟨by simp;omega,?_⟩;rw[<-h,h2,show n+1+vs.length=(n+vs.length)+1 from by omega];simp
  ·simp at h
theorem VL.splice{Ω:Om}{cs ds es:List AV}{us ws:List Value}{off:Nat}(h:VL Ω cs us)(k:VL Ω ds ws)(hs:splice cs off ds=some es) :
  VL Ω es (us.take off++ws++us.drop (off+ws.length)):=by
 obtain⟨h1,h2⟩:=gd _ _ _ _ hs;subst h2;rw[<-k.1];exact((h.take off).append k).append (h.drop _)
theorem jc(B:Nat->Option SObj)(k:Nat)(x:SObj):updB B [(k,x)]=fun j=>if k=j then some x else B j:=rfl
theorem Holds.slot{F:Fr}{s:AS}{a:Act}{Ω:Om}{k:Nat}{c:CObj}{obj:SObj}{w':World}{pub':Nat->Nat->Prop}{dst:Option Nat}{val:AV}{v:Value}
 (h:Holds F s a Ω)(hx:Ext Ω ⟨fun i=>if k=i then some c else Ω.e i,w',pub'⟩)
 (hslot:bH ⟨fun i=>if k=i then some c else Ω.e i,w',pub'⟩ F.own k obj)
 (hold:∀i c',i≠k->Ω.e i=some c'->pK Ω ⟨fun i=>if k=i then some c else Ω.e i,w',pub'⟩ c')
 (hnew:∀i c' b o,i≠k->Ω.e i=some c'->occ c' b o->occ c b o->False)
 (hp:∀b o,pub' b o->∃v,w'.cell? ⟨b,o,none⟩=some v)
 (hf:FrameOK F ⟨fun i=>if k=i then some c else Ω.e i,w',pub'⟩)
 (hv:V ⟨fun i=>if k=i then some c else Ω.e i,w',pub'⟩ val v)(hd:∀d,dst=some d->d<F.n) :
  Holds F ⟨dY s.T dst val,updB s.B [(k,obj)]⟩ (a.put dst v) ⟨fun i=>if k=i then some c else Ω.e i,w',pub'⟩:=by
 refine h.step hx hv hd (fun id o ho=>?_) (fun id hid=>?_) (fun i j ci cj b o hi hj hbi hbj=>?_) hp hf
 ·simp only[jc]at ho;by_cases hk:k=id
  ·subst hk;simp at ho;subst ho;exact hslot
  ·rw[N3 hk]at ho;exact(h.slots id o ho).keep hx (by simp[hk]) (fun c' hc'=>hold id c' (fun e=>hk e.symm) hc')
 ·simp only[jc]at hid;by_cases hk:k=id
  ·subst hk;simp at hid
  ·rw[N3 hk]at hid;simp only[N3 hk];exact h.dom id hid
 ·by_cases hi':k=i<;>by_cases hj':k=j
  ·omega
  ·simp only[N6 hi',N3 hj',Xs]at hi hj;subst hi;exact(hnew j cj b o (fun e=>hj' e.symm) hj hbj hbi).elim
  ·simp only[N3 hi',N6 hj',Xs]at hi hj;subst hj;exact(hnew i ci b o (fun e=>hi' e.symm) hi hbi hbj).elim
  ·simp only[N3 hi',N3 hj']at hi hj;exact h.inj i j ci cj b o hi hj hbi hbj
theorem ig(w:World)(x:Obj)(b:Nat)(hb:b<w.heap.size):(w.alloc x).heap[b]?=w.heap[b]?:=by show(w.heap.push x)[b]?=_;rw[Array.getElem?_push,N3 (by omega)]
theorem dt(w:World)(x:Obj):(w.alloc x).heap[w.heap.size]?=some x:=by show(w.heap.push x)[w.heap.size]?=_;simp
theorem Holds.cell_lt{F:Fr}{s:AS}{a:Act}{Ω:Om}(h:Holds F s a Ω){b o:Nat}(hp:Ω.pub b o):b<Ω.w.heap.size:=by obtain⟨v,hv⟩:=h.pubok b o hp;exact b7 hv
theorem Holds.alloc{F:Fr}{s:AS}{a:Act}{Ω:Om}{d:Nat}{c:CObj}{obj:SObj}{x:Obj}{p:Nat->Prop}{dst:Option Nat}{val:AV}{v:Value}
 (h:Holds F s a Ω)(hn:Ω.e d=none∨∃c0,Ω.e d=some c0/\CLe c0 c)(hc:∀b o,occ c b o->b=Ω.w.heap.size)
 (hslot:Ext Ω ⟨fun i=>if d=i then some c else Ω.e i,Ω.w.alloc x,fun b o=>Ω.pub b o∨(b=Ω.w.heap.size/\p o)⟩->
   bH ⟨fun i=>if d=i then some c else Ω.e i,Ω.w.alloc x,fun b o=>Ω.pub b o∨(b=Ω.w.heap.size/\p o)⟩ F.own d obj)
 (hcell:∀o,p o->∃v,(Ω.w.alloc x).cell? ⟨Ω.w.heap.size,o,none⟩=some v)
 (hv:Ext Ω ⟨fun i=>if d=i then some c else Ω.e i,Ω.w.alloc x,fun b o=>Ω.pub b o∨(b=Ω.w.heap.size/\p o)⟩->
   V ⟨fun i=>if d=i then some c else Ω.e i,Ω.w.alloc x,fun b o=>Ω.pub b o∨(b=Ω.w.heap.size/\p o)⟩ val v)(hd:∀d,dst=some d->d<F.n) :
  Holds F ⟨dY s.T dst val,updB s.B [(d,obj)]⟩ (a.put dst v)
   ⟨fun i=>if d=i then some c else Ω.e i,Ω.w.alloc x,fun b o=>Ω.pub b o∨(b=Ω.w.heap.size/\p o)⟩:=by
 have hx:Ext Ω ⟨fun i=>if d=i then some c else Ω.e i,Ω.w.alloc x,fun b o=>Ω.pub b o∨(b=Ω.w.heap.size/\p o)⟩:=by
  refine⟨fun id c' hc'=>?_,fun b o hp=>Or.inl hp,fun b o hp=>aF (ig _ _ _ (h.cell_lt hp)) o⟩;by_cases hid:d=id
  ·subst hid;rcases hn with hn|⟨c0,hn,hl⟩
   ·rw[hn]at hc';cases hc'
   ·rw[hn]at hc';simp at hc';subst hc';exact⟨c,by simp,hl⟩
  ·exact⟨c',by simp[hid,hc'],CLe.refl _⟩
 refine h.slot hx (hslot hx) (fun i c' hi he=>pK.of_blocks fun b o hb=>?_) (fun i c' b o hi he hb hb'=>?_) (fun b o hp=>?_) ?_ (hv hx) hd
 ·have hlt:=h.blk he hb;exact⟨ig _ _ _ hlt,fun o ho=>ho.resolve_right (fun e=>by omega)⟩
 ·have hlt:=h.blk he hb;have:=hc b o hb';omega
 ·rcases hp with hp|⟨rfl,hp⟩
  ·obtain⟨v,hv⟩:=h.pubok b o hp;exact⟨v,by rw[aF (ig _ _ _ (h.cell_lt hp)),hv]⟩
  ·exact hcell o hp
 ·have hsz:=h.frame.size;refine⟨h.frame.os,h.frame.tape,h.frame.output,by simp;omega,fun b hb hnb=>?_,fun b o hb hnb=>?_,fun b hb=>?_,fun b o hp=>?_,fun b o hp=>Or.inl (h.frame.old b o hp),fun b o hp=>(hx.cell b o (h.frame.old b o hp)).trans (h.frame.pcell b o hp)⟩
  ·show(Ω.w.alloc x).heap[b]?=_;rw[ig _ _ _ (by omega)];exact h.frame.block b hb hnb
  ·exact(aF (ig Ω.w x b (by omega)) o).trans (h.frame.cell b o hb hnb)
  ·intro hnb;obtain⟨k1,k2⟩:=h.frame.kind b hb hnb;exact⟨(bZ (ig Ω.w x b (by omega))).trans k1,fun o=>(bC (ig Ω.w x b (by omega)) o).trans (k2 o)⟩
  ·rcases hp with hp|⟨rfl,hp⟩
   ·exact h.frame.pub b o hp
   ·exact Or.inr (Or.inl h.frame.size)
theorem Holds.newVar{F:Fr}{s:AS}{a:Act}{Ω:Om}{d:Nat}{c:AV}{vs:Array Value}{ty:Nat}
 (h:Holds F s a Ω)(hB:s.B d=none)(hv:VL Ω (aa c) vs.toList)(hd:d<F.n) :
  ∃Ω',Ω'.w=Ω.w.alloc (.cells vs ty)/\
   Holds F ⟨dY s.T (some d) (.ptr d 0),updB s.B [(d,.box c)]⟩ (a.put (some d) (.pointer (some ⟨Ω.w.heap.size,0,none⟩))) Ω':=by
 refine⟨_,rfl,h.alloc (c:=.box Ω.w.heap.size 0 (aa c).length) (p:=fun _=>False) (Or.inl (h.dom d hB)) (fun b o hb=>hb.1) (fun hx=>?_) (fun _ hf=>hf.elim) (fun hx=>?_) (fun d' hd'=>by simp at hd';subst hd';exact hd)⟩
 ·refine⟨Ω.w.heap.size,0,by simp,fun j c' hc=>?_⟩
  have hj:j<vs.size:=by
   have h1:(aa c).length=vs.toList.length:=hv.1;have h2:vs.toList.length=vs.size:=Pb;rcases Nv j (aa c).length with k|k
   ·rw[<-h2,<-h1];exact k
   ·rw[Nd k]at hc;cases hc
  have hcells:(Ω.w.alloc (.cells vs ty)).heap[Ω.w.heap.size]?=some (.cells vs ty (0,0)):=dt _ _;refine⟨Or.inl h.frame.size,fun hp=>?_,fG hcells _,vs[j],?_,(hv.2 j c' _ hc (by simp[hj])).ext hx⟩
  ·rcases hp with hp|⟨_,hp⟩
   ·have:=h.cell_lt hp;omega
   ·exact hp
  ·simp only[OQ];rw[aT hcells];simp[hj]
 ·have:=V.ptr (Ω:=⟨fun i=>if d=i then some (.box Ω.w.heap.size 0 (aa c).length)else Ω.e i,Ω.w.alloc (.cells vs ty),fun b o=>Ω.pub b o∨(b=Ω.w.heap.size/\False)⟩) d 0 Ω.w.heap.size 0 (aa c).length (by simp);simpa using this
theorem nL{w:World}{t:Nat}{v:Value}:(newVar t v).run P w=.ok ⟨w.heap.size,0,none⟩ (w.alloc (.cells v.cells t)):=by simp[newVar,newRow]
theorem xV(v:Value):aa (cQ v)=[cQ v]:=by unfold cQ;split<;>(try split)<;>rfl
theorem wj{v:Value}(h:cQ v=.nilp):v=.pointer none:=by unfold cQ at h;split at h<;>(try split at h)<;>first|rfl|cases h
theorem wk{v:Value}(h:cQ v=.nils):v=.slice none 0 0:=by unfold cQ at h;split at h<;>(try split at h)<;>first|rfl|cases h
theorem rT:∀{l:List AV},JI l=true->bD (.int .i64) (List.replicate l.length (0:Int))=l
 |[],_=>rfl
 |c::r,h=>by
  unfold JI at h;split at h
  ·rename_i h1;cases h1
  ·rename_i r' h1;simp only[PA]at h1;obtain⟨rfl,rfl⟩:=h1;have ih:=rT h;simp only[N7,List.replicate_succ,bD,O9]at ih⊢;rw[ih];rfl
  ·cases h
theorem GX(hT:cq P C.tbl){e:Nat}(hop:o.op=.alloc e):dq P C o:=by
 intro F s a Ω eff next Q h hd he ho hn
 simp only[aQ,hop]at he;split at he
 ·rename_i d r hdst hr;split at he
  ·rename_i u hu;split at he
   ·rename_i hB;simp only[Xs]at he;subst he;obtain⟨i,z,i1,i2,i3,i4,i5⟩:=(hT _ _ hr).info
    have hz0:r.zero=[.nilp,.nils]:=by
     unfold L3 at hu;split at hu
     ·assumption
     ·cases hu
    rw[hz0]at i5
    have hz:z.cells=#[.pointer none,.slice none 0 0]:=by
     match hl:z.cells.toList,i5 with
     |[],i5=>cases i5
     |[_],i5=>simp at i5
     |_::_::_::_,i5=>simp at i5
     |[x,y],i5=>simp only[Nj,P6,PA,NX]at i5;have hx:x=.pointer none:=wj i5.1;have hy:y=.slice none 0 0:=wk i5.2;subst hx hy;exact Array.toList_inj.1 hl
    have hnew:(Ω.w.alloc (.cells #[.pointer none,.slice none 0 0] e)).heap[Ω.w.heap.size]?=some (.cells #[.pointer none,.slice none 0 0] e (0,0)):=dt _ _
    have hh:=h.alloc (d:=d) (c:=.bld Ω.w.heap.size none) (obj:=.bld e u []) (x:=.cells #[.pointer none,.slice none 0 0] e) (p:=fun _=>False) (dst:=some d) (val:=.bptr d) (v:=.pointer (some ⟨Ω.w.heap.size,0,none⟩))
     (Or.inl (h.dom d hB)) (fun b o hb=>by rcases hb with hb|hb;exact hb;cases hb)
     (fun hx=>by
      refine⟨Ω.w.heap.size,none,by simp,fun b' hb o=>?_,.pointer none,.slice none 0 0,hnew,.inl rfl,rfl,by simp,World.ownsRowF_nil _ _ _ _,fun _=>rfl⟩;rcases hb with rfl|hb
      ·refine⟨Or.inl h.frame.size,fun hp=>?_⟩;rcases hp with hp|⟨_,hp⟩
       ·have:=h.cell_lt hp;omega
       ·exact hp
      ·cases hb)
     (fun _ hf=>hf.elim) (fun hx=>.bptr d Ω.w.heap.size none (by simp)) (fun d' hd'=>by simp at hd';subst hd';exact hd d hdst)
    refine bx (v:=.pointer (some ⟨Ω.w.heap.size,0,none⟩)) (w':=Ω.w.alloc (.cells z.cells e)) ?_ ?_
    ·simp[execOp,hop,Instr.alloc,lN i1 i4,nL]
    ·rw[hz];rw[hdst]at hn⊢;exact hn _ _ hh
   ·simp at he
  split at he
  ·rename_i c hB hz;simp only[Xs]at he;subst he;obtain⟨i,z,i1,i2,i3,i4,i5⟩:=(hT _ _ hr).info
   have hc:aa c=r.zero:=by
    unfold Dc at hz;split at hz
    ·split at hz
     ·rename_i hzz;simp only[N4]at hzz;simp only[Xs]at hz;subst hz;rw[<-cD _ _ hzz.2];exact rT hzz.1
     ·cases hz
    split at hz
    ·simp only[Xs]at hz;subst hz;rfl
    ·split at hz
     ·rename_i c1 hzz;simp only[Xs]at hz;subst hz;rw[hzz]at i5
      match hl:z.cells.toList,i5 with
      |[u],i5=>simp only[Nj,P6,PA,NX]at i5;rw[<-i5,xV,i5,hzz]
     ·cases hz
   have hvl:VL Ω (aa c) z.cells.toList:=by rw[hc,<-i5];exact rP Ω _
   obtain⟨Ω',hw,hh⟩:=h.newVar (ty:=e) hB hvl (hd d hdst);refine bx (v:=.pointer (some ⟨Ω.w.heap.size,0,none⟩)) (w':=Ω.w.alloc (.cells z.cells e)) ?_ ?_
   ·simp[execOp,hop,Instr.alloc,lN i1 i4,nL]
   ·rw[<-hw];rw[hdst]at hn⊢;exact hn _ _ hh
  ·simp at he
 ·simp at he
theorem Lr{e:Nat}{x:Operand}(hop:o.op=.box e x):dq P C o:=by
 intro F s a Ω eff next Q h hd he ho hn
 simp only[aQ,hop]at he;split at he
 ·rename_i d r hdst hr;split at he
  ·rename_i hB;split at he
   ·rename_i hl;simp only[Xs]at he;subst he;simp only[N4]at hl;have hvl:=(ct h x).parts hl.1;obtain⟨Ω',hw,hh⟩:=h.newVar (ty:=e) hB hvl (hd d hdst);refine bx (v:=.pointer (some ⟨Ω.w.heap.size,0,none⟩)) (w':=Ω.w.alloc (.cells (a.eval x).cells e)) ?_ ?_
    ·simp[execOp,hop,Instr.box,nL]
    ·rw[<-hw];rw[hdst]at hn⊢;exact hn _ _ hh
   ·simp at he
  ·simp at he
 ·simp at he
theorem uV(off:Nat):∀(vs:List Value)(i:Nat)(cs:Array Value),off+i+vs.length<=cs.size->
  (vs.zipIdx i).foldl (fun(cs:Array Value)(x:Value×Nat)=>cs.setIfInBounds (off+x.2) x.1) cs=
   (cs.toList.take (off+i)++vs++cs.toList.drop (off+i+vs.length)).toArray
 |[],i,cs,_=>by simp
 |v::vs,i,cs,h=>by
  simp at h;simp only[List.zipIdx_cons,PY];rw[uV off vs (i+1) _ (by simp;omega)];apply Ob;have hi:off+i<cs.toList.length:=by simp;omega
  simp only[Array.toList_setIfInBounds,N7];rw[PH,N6 hi]
  have e1:(List.take (off+i) cs.toList++v::List.drop (off+i+1) cs.toList).take (off+(i+1))=List.take (off+i) cs.toList++[v]:=by
   rw[List.take_append,OJ (by simp;omega)];congr 1;have:off+(i+1)-(List.take (off+i) cs.toList).length=1:=by simp;omega
   rw[this];rfl
  have e2:(List.take (off+i) cs.toList++v::List.drop (off+i+1) cs.toList).drop (off+(i+1)+vs.length)=List.drop (off+i+(vs.length+1)) cs.toList:=by
   rw[List.drop_append,List.drop_of_length_le (by simp;omega),Nk];have:off+(i+1)+vs.length-(List.take (off+i) cs.toList).length=vs.length+1:=by simp;omega
   rw[this,List.drop_succ_cons,Pr];congr 1;omega
  rw[e1,e2];simp
theorem uW{place:Nat->Option (Nat×Nat)}{cells:Array Value}{i:Nat}{v:Value}{rest:List (Nat×Value)}{off size:Nat}
 (hp:place i=some (off,size))(hs:v.cells.size=size)(hl:off+v.cells.size<=cells.size) :
  Instr.fill place cells ((i,v)::rest)=
   Instr.fill place (cells.toList.take off++v.cells.toList++cells.toList.drop (off+v.cells.size)).toArray rest:=by
 simp only[Instr.fill,hp];rw[N3 (by simp;omega)];congr 1;rw[<-Array.foldl_toList];have:=uV off v.cells.toList 0 cells (by simpa using hl);simp only[P5,Pb]at this;rw[<-this];simp[Array.toList_zipIdx]
theorem xW{Ω:Om}{x:AV}{v:Value}(h:V Ω x v){n:Nat}(hl:ib (aa x) n=true)(hn:(aa x).all ng=true):v.cells.size=n:=by have:=(h.parts hn).1;rw[cD _ _ hl]at this;simpa using this.symm
theorem qz{Ω:Om}(fs:List (Nat×Nat))(sz:Nat->Option Nat):∀(ps:List (Nat×AV))(qs:List (Nat×Value))(cs ds:List AV)(vs:List Value)(place:Nat->Option (Nat×Nat)),
  (∀i off t n,nth fs i=some (off,t)->sz t=some n->place i=some (off,n))->
  ps.map (·.1)=qs.map (·.1)->VL Ω (ps.map (·.2)) (qs.map (·.2))->VL Ω cs vs->xN fs sz cs ps=some ds->
  ∃ws,Instr.fill place vs.toArray qs=some ws/\VL Ω ds ws.toList
 |[],qs,cs,ds,vs,place,_,hq,_,hc,hf=>by
  cases qs with|cons _ _=>simp at hq|nil=>simp[xN]at hf;subst hf;exact⟨vs.toArray,rfl,by simpa using hc⟩
 |(i,x)::ps,[],cs,ds,vs,place,_,hq,_,_,_=>by simp at hq
 |(i,x)::ps,(i',v)::qs,cs,ds,vs,place,hp,hq,hv,hc,hf=>by
  simp only[Nj,PA]at hq;obtain⟨rfl,hq⟩:=hq;simp only[Nj]at hv;simp only[xN]at hf;split at hf
  ·rename_i off t hft;split at hf
   ·rename_i n hn;split at hf
    ·rename_i hl;simp only[N4]at hl;split at hf
     ·rename_i es hes;have hxv:=hv.head;have hpl:=hp _ _ _ _ hft hn;have hsz:=xW hxv hl.2 hl.1;have hsp:=hc.splice (hxv.parts hl.1) hes;obtain⟨s1,s2⟩:=gd _ _ _ _ hes;obtain⟨ws,h1,h2⟩:=qz fs sz ps qs es ds _ place hp hq hv.tail hsp hf;refine⟨ws,?_,h2⟩
      rw[uW hpl hsz (by
       have e1:=cD _ _ hl.2;simp only[P7,<-hc.1];omega)]
      simpa using h1
     ·simp at hf
    ·simp at hf
   ·simp at hf
  ·simp at hf
theorem rU{w:World}(hT:cq P C.tbl):∀(fields:List Field),(∀f∈fields,∃i,P.info? f.type=some i/\i.size≠0)->
  (fields.mapM fun f=>(do pure (f.offset,<-sizeOf f.type):Sem (Nat×Nat))).run P w=.ok (fields.map fun f=>(f.offset,P.cellsOf f.type)) w
 |[],_=>rfl
 |f::fs,h=>by obtain⟨i,hi,_⟩:=h f (by simp);rw[List.mapM_cons];simp only[NA,eE hi,Nh,NN,rU hT fs (fun f hf=>h f (by simp[hf])),Nj,Program.cellsOf,hi,OC,Ol]
theorem GZ(hT:cq P C.tbl){t:Nat}{ps:Array (Nat×Operand)}(hop:o.op=.build t ps):dq P C o:=by
 refine dq.pure fun F s a Ω eff h he ho=>?_;simp only[aQ,hop]at he;split at he
 ·rename_i fs sz by' z ty hr
  split at he
  ·rename_i cs hcs;simp only[Xs]at he;subst he;obtain⟨d,hd1,hd2⟩:=bJ hT hr rfl;cases d<;>simp[bS]at hd2;rename_i fields;obtain⟨hf1,hf2⟩:=hd2;obtain⟨i,zv,i1,i2,i3,i4,i5⟩:=(hT _ _ hr).info;have i5':List.map cQ zv.cells.toList=z:=i5;have hz:VL Ω z zv.cells.toList:=by rw[<-i5'];exact rP Ω _
   have hfi:∀f∈fields.toList,∃i,P.info? f.type=some i/\i.size≠0:=by
    intro f hf;obtain⟨j,hj,hje⟩:=Po.1 (Ps.1 hf);have:=hf2 j hj;rw[hje]at this;split at this
    ·rename_i i' hi';exact⟨i',hi',fun h0=>by simp[h0]at this⟩
    ·simp at this
   have hpl:∀w,(fields.mapM fun f=>(do pure (f.offset,<-sizeOf f.type):Sem (Nat×Nat))).run P w=.ok (fields.toList.map fun f=>(f.offset,P.cellsOf f.type)).toArray w:=by intro w;rw[<-P8 (xs:=fields),Qd];simp only[Sem.run_map,rU hT fields.toList hfi,Nh]
   obtain⟨ws,h1,h2⟩:=qz (Ω:=Ω) fs (fun t=>(bE C.tbl t).map (·.size)) (ps.toList.map fun(i,x)=>(i,opd s.T x)) (ps.toList.map fun(i,x)=>(i,a.eval x)) z cs zv.cells.toList
    (fun i=>((fields.toList.map fun f=>(f.offset,P.cellsOf f.type)).toArray)[i]?)
    (by
     intro j off t' n hn1 hn2;rw[lM,<-hf1]at hn1;simp only[NM,NB]at hn1 hn2;obtain⟨f,hf,e⟩:=hn1;obtain⟨r',hr',e'⟩:=hn2;simp at e;obtain⟨i',z',j1,j2,j3,j4,j5⟩:=(hT _ _ hr').info;simp only[Oi,NM,hf,OC,Program.cellsOf,e.1,e.2,j1,Ol,j2,e'])
    (by simp[Qe])
    (by
     refine⟨by simp,fun j c v hc hv=>?_⟩;simp only[Q5,NM,NB]at hc hv;obtain⟨x,hx,e⟩:=hc;obtain⟨x',hx',e'⟩:=hv;rw[hx]at hx';simp at hx';subst hx';simp at e e';rw[<-e,<-e'];exact ct h x.2)
    hz hcs
   refine⟨rfl,.agg ws,?_,?_⟩
   ·simp only[execOp,hop,Instr.build,NA,lN i1 i4,Nh,bQ hd1,hpl,NN];have e:ps.map (fun x=>(x.1,a.eval x.2))=(ps.toList.map fun(i,x)=>(i,a.eval x)).toArray:=by apply Ob;simp
    have e2:(ps.map fun x=>match x with|(i,x)=>(i,a.eval x)).toList=ps.toList.map fun(i,x)=>(i,a.eval x):=by simp
    simp only[P8]at h1;rw[e2,h1];simp
   ·have:=V.of_agg h2;show V Ω (.agg cs) _;simpa using this
  ·simp at he
 ·simp at he
end
end Go.AL
end
section
namespace Go.AL
variable [Tabs]
def Rd(a b:AV):Prop:=∀Ω v,V Ω a v->V Ω b v
theorem Rd.refl(a:AV):Rd a a:=fun _ _ h=>h
theorem Rd.lst(τ:Ty)(xs:List (den τ))(o:Option Nat):Rd (.lst τ xs o) (.lst τ xs none):=by
 intro Ω v hv
 cases hv with|lstNil _ _ _=>exact .lstNil τ none (fun id hid=>by simp at hid)|lstVoid _ a=>exact .lstVoid τ a|lst _ _ _ b off cap vals h1 h2 h3 h4 h5=>exact .lst τ xs none b off cap vals h1 h2 (fun id hid=>by simp at hid) h4 h5
theorem Rd.nils(τ:Ty):Rd .nils (.lst τ [] none):=by intro Ω v hv;cases hv;exact .lstNil τ none (fun id hid=>by simp at hid)
def RdL(cs ds:List AV):Prop:=cs.length=ds.length/\∀(j:Nat)(c d:AV),cs[j]?=some c->ds[j]?=some d->Rd c d
theorem RdL.nil:RdL [] []:=⟨rfl,fun _ _ _ h=>by simp at h⟩
theorem RdL.cons{a b:AV}{cs ds:List AV}(h:Rd a b)(k:RdL cs ds):RdL (a::cs) (b::ds):=by
 refine⟨by simp[k.1],fun j c d hc hd=>?_⟩
 cases j with|zero=>simp at hc hd;subst hc hd;exact h|succ j=>exact k.2 j c d (by simpa using hc) (by simpa using hd)
theorem VL.rd{Ω:Om}{cs ds:List AV}{vs:List Value}(h:VL Ω cs vs)(r:RdL cs ds):VL Ω ds vs:=by
 refine⟨by rw[<-r.1,h.1],fun j d v hd hv=>?_⟩
 have hj:j<cs.length:=by
  rw[r.1];rcases Nv j ds.length with k|k
  ·exact k
  ·rw[Nd k]at hd;cases hd
 have hc:cs[j]?=some cs[j]:=N9 hj;exact r.2 j _ d hc hd _ _ (h.2 j _ v hc hv)
theorem bh{k:IntKind}{a:AV}{n:Int}(h:asInt k a=some n):Rd a (.int k n):=by cases a<;>simp[asInt]at h;obtain⟨rfl,rfl⟩:=h;exact Rd.refl _
theorem uX{a:AV}{n:Bool}(h:ra a=some n):Rd a (.bool n):=by cases a<;>simp[ra]at h;subst h;exact Rd.refl _
theorem cg{a:AV}{n:Str}(h:dZ a=some n):Rd a (.str n):=by cases a<;>simp[dZ]at h;subst h;exact Rd.refl _
theorem cy{τ:Ty}{a:AV}{xs:List (den τ)}(h:eR τ a=some xs):Rd a (.lst τ xs none):=by
 cases a<;>simp[eR]at h
 ·rename_i σ ys o;obtain⟨e,rfl⟩:=ke h;subst e;exact Rd.lst σ ys o
 ·subst h;exact Rd.nils τ
theorem rV{n m:SN}{x:Option (SD n)}{y:Option (SD m)}(h:uT n m x=some y):∃e:n=m,e ▸ x=y:=by
 unfold uT at h;split at h
 ·rename_i e;simp at h;exact⟨e,h⟩
 ·simp at h
theorem JT{n:SN}{a:AV}{x:Option (SD n)}(h:Lm n a=some x):Rd a (.pt n x):=by
 unfold Lm at h;split at h
 ·obtain⟨e,h⟩:=rV h;subst e;subst h;exact Rd.refl _
 ·simp at h;subst h;intro Ω v hv;cases hv;exact .ptNone n
 ·obtain⟨e,h⟩:=rV h;subst e;subst h;exact fun Ω v hv=>.ptSome _ _ v hv
 ·cases h
theorem RdL.app{as bs cs ds:List AV}(h:RdL as bs)(k:RdL cs ds):RdL (as++cs) (bs++ds):=by
 refine⟨by simp[h.1,k.1],fun j c d hc hd=>?_⟩;by_cases hj:j<as.length
 ·rw[Nq hj]at hc;rw[Nq (by rw[<-h.1];exact hj)]at hd;exact h.2 j c d hc hd
 ·rw[Nr (by omega)]at hc;rw[Nr (by rw[<-h.1];omega),<-h.1]at hd;exact k.2 _ c d hc hd
theorem iE{cs:List AV}{x:Shape}(h:iR cs=some x):RdL cs (ej x):=by
 unfold iR at h;split at h
 ·split at h
  ·rename_i h0 h1 h2 h3 h4;simp only[Xs]at h;subst h;exact(.cons (bh h0) (.cons (cg h1) (.cons (cg h2) (.cons (cy h3) (.cons (cy h4) .nil)))))
  ·cases h
 ·cases h
theorem xX{cs:List AV}{x:Item}(h:rB cs=some x):RdL cs (iL x):=by
 unfold rB at h;split at h
 ·split at h
  ·rename_i h0 h1 h2;simp only[Xs]at h;subst h;exact(.cons (bh h0) (.cons (cg h1) (RdL.app (iE h2) .nil)))
  ·cases h
 ·cases h
theorem um{cs:List AV}{x:Change}(h:nK cs=some x):RdL cs (fN x):=by
 unfold nK at h;split at h
 ·split at h
  ·rename_i h0 h1;simp only[Xs]at h;subst h;exact(.cons (bh h0) (.cons (cg h1) .nil))
  ·cases h
 ·cases h
theorem wm{cs:List AV}{x:Tokn}(h:pG cs=some x):RdL cs (gB x):=by
 unfold pG at h;split at h
 ·split at h
  ·rename_i h0 h1 h2;simp only[Xs]at h;subst h;exact(.cons (bh h0) (.cons (cg h1) (.cons (bh h2) .nil)))
  ·cases h
 ·cases h
theorem wo{cs:List AV}{x:Flt}(h:pH cs=some x):RdL cs (gD x):=by
 unfold pH at h;split at h
 ·split at h
  ·rename_i h0 h1;simp only[Xs]at h;subst h;exact(.cons (bh h0) (.cons (bh h1) .nil))
  ·cases h
 ·cases h
theorem qA{cs:List AV}{x:Trm}(h:oq cs=some x):RdL cs (gE x):=by
 unfold oq at h;split at h
 ·split at h
  ·rename_i h0 h1 h2 h3 h4 h5 h6 h7 h8;simp only[Xs]at h;subst h;exact(.cons (bh h0) (.cons (cg h1) (.cons (cg h2) (.cons (bh h3) (.cons (cy h4) (.cons (cy h5) (.cons (cy h6) (.cons (cy h7) (.cons (bh h8) .nil)))))))))
  ·cases h
 ·cases h
theorem jd{cs:List AV}{x:Vers}(h:hZ cs=some x):RdL cs (dH x):=by
 unfold hZ at h;split at h
 ·split at h
  ·rename_i h0 h1 h2 h3;simp only[Xs]at h;subst h;exact(.cons (bh h0) (.cons (bh h1) (.cons (bh h2) (.cons (cg h3) .nil))))
  ·cases h
 ·cases h
theorem wq{cs:List AV}{x:Bnd}(h:pI cs=some x):RdL cs (gF x):=by
 unfold pI at h;split at h
 ·split at h
  ·rename_i h0 h1;simp only[Xs]at h;subst h;exact(.cons (bh h0) (RdL.app (jd h1) .nil))
  ·cases h
 ·cases h
theorem B5{cs:List AV}{x:Impt}(h:vV cs=some x):RdL cs (jX x):=by
 unfold vV at h;split at h
 ·split at h
  ·rename_i h0 h1 h5 h6;simp only[Xs]at h;subst h;exact(.cons (cg h0) (RdL.app (jd h1) (.cons (cy h5) (.cons (bh h6) .nil))))
  ·cases h
 ·cases h
theorem xY{cs:List AV}{x:Dcl}(h:rC cs=some x):RdL cs (iM x):=by
 unfold rC at h;split at h
 ·split at h
  ·rename_i h0 h1 h2 h7 h16;simp only[Xs]at h;subst h;exact(.cons (bh h0) (.cons (cg h1) (RdL.app (iE h2) (RdL.app (qA h7) (.cons (bh h16) .nil)))))
  ·cases h
 ·cases h
theorem xZ{cs:List AV}{x:Modu}(h:rD cs=some x):RdL cs (iN x):=by
 unfold rD at h;split at h
 ·split at h
  ·rename_i h0 h1 h2 h3 h4;simp only[Xs]at h;subst h;exact(.cons (cg h0) (.cons (cy h1) (.cons (cy h2) (.cons (cy h3) (.cons (bh h4) .nil)))))
  ·cases h
 ·cases h
theorem y5{cs:List AV}{x:Bndg}(h:rE cs=some x):RdL cs (iO x):=by
 unfold rE at h;split at h
 ·split at h
  ·rename_i h0 h1 h2;simp only[Xs]at h;subst h;exact(.cons (cg h0) (.cons (cg h1) (RdL.app (iE h2) .nil)))
  ·cases h
 ·cases h
theorem B6{cs:List AV}{x:Envt}(h:vW cs=some x):RdL cs (jY x):=by
 unfold vW at h;split at h
 ·split at h
  ·rename_i h0 h1 h2 h3;simp only[Xs]at h;subst h;exact(.cons (cg h0) (.cons (cy h1) (.cons (cy h2) (.cons (cy h3) .nil))))
  ·cases h
 ·cases h
theorem B7{cs:List AV}{x:Depd}(h:vX cs=some x):RdL cs (jZ x):=by
 unfold vX at h;split at h
 ·split at h
  ·rename_i h0 h1;simp only[Xs]at h;subst h;exact(.cons (cg h0) (.cons (cy h1) .nil))
  ·cases h
 ·cases h
theorem rW{cs:List AV}{x:Vlu}(h:rb cs=some x):RdL cs (j6 x):=by
 unfold rb at h;split at h
 ·split at h
  ·rename_i h0 h1 h2 h3 h4 h5;simp only[Xs]at h;subst h;exact(.cons (bh h0) (.cons (bh h1) (.cons (cg h2) (.cons (cg h3) (.cons (cy h4) (.cons (cy h5) .nil))))))
  ·cases h
 ·cases h
theorem y7{cs:List AV}{x:Cel}(h:rF cs=some x):RdL cs (iP x):=by
 unfold rF at h;split at h
 ·split at h
  ·rename_i h0 h1;simp only[Xs]at h;subst h;exact(.cons (cg h0) (RdL.app (rW h1) .nil))
  ·cases h
 ·cases h
theorem E5{cs:List AV}{x:Opn}(h:AJ cs=some x):RdL cs (mK x):=by
 unfold AJ at h;split at h
 ·split at h
  ·rename_i h0 h1 h2 h3 h4 h5;simp only[Xs]at h;subst h;exact(.cons (bh h0) (.cons (bh h1) (.cons (cg h2) (.cons (cy h3) (.cons (cy h4) (.cons (bh h5) .nil))))))
  ·cases h
 ·cases h
theorem wu{cs:List AV}{x:Chnk}(h:pJ cs=some x):RdL cs (gG x):=by
 unfold pJ at h;split at h
 ·split at h
  ·rename_i h0 h1;simp only[Xs]at h;subst h;exact(.cons (bh h0) (.cons (cy h1) .nil))
  ·cases h
 ·cases h
theorem B8{cs:List AV}{x:Usg}(h:vY cs=some x):RdL cs (k0 x):=by
 unfold vY at h;split at h
 ·split at h
  ·rename_i h0 h1;simp only[Xs]at h;subst h;exact(.cons (cg h0) (.cons (cg h1) .nil))
  ·cases h
 ·cases h
theorem E6{cs:List AV}{x:Nam}(h:AK cs=some x):RdL cs (mL x):=by
 unfold AK at h;split at h
 ·split at h
  ·rename_i h0 h1;simp only[Xs]at h;subst h;exact(.cons (cg h0) (.cons (cg h1) .nil))
  ·cases h
 ·cases h
theorem B9{cs:List AV}{x:Stt}(h:vZ cs=some x):RdL cs (ka x):=by
 unfold vZ at h;split at h
 ·split at h
  ·rename_i h0 h1;simp only[Xs]at h;subst h;exact(.cons (bh h0) (.cons (bh h1) .nil))
  ·cases h
 ·cases h
theorem Ba{cs:List AV}{x:Par}(h:w4 cs=some x):RdL cs (kb x):=by
 unfold w4 at h;split at h
 ·split at h
  ·rename_i h0 h1 h2 h3;simp only[Xs]at h;subst h;exact(.cons (cy h0) (.cons (bh h1) (.cons (bh h2) (.cons (bh h3) .nil))))
  ·cases h
 ·cases h
theorem y8{cs:List AV}{x:Rstt}(h:rG cs=some x):RdL cs (iQ x):=by
 unfold rG at h;split at h
 ·split at h
  ·rename_i h0 h1 h2;simp only[Xs]at h;subst h;exact(.cons (uX h0) (.cons (bh h1) (.cons (bh h2) .nil)))
  ·cases h
 ·cases h
theorem kS(τ:Ty){cs:List AV}{x:den τ}(h:AM τ cs=some x):RdL cs (cells τ x):=by
 unfold AM at h;split at h
 ·exact .cons (bh h) .nil
 ·exact .cons (uX h) .nil
 ·exact .cons (cg h) .nil
 ·exact .cons (cy h) .nil
 ·exact .cons (JT h) .nil
 ·exact iE h
 ·exact xX h
 ·exact um h
 ·exact wm h
 ·exact wo h
 ·exact qA h
 ·exact jd h
 ·exact wq h
 ·exact B5 h
 ·exact xY h
 ·exact xZ h
 ·exact y5 h
 ·exact B6 h
 ·exact B7 h
 ·exact rW h
 ·exact y7 h
 ·exact E5 h
 ·exact wu h
 ·exact B8 h
 ·exact E6 h
 ·exact B9 h
 ·exact Ba h
 ·exact y8 h
 ·simp at h
theorem RdL.refl:∀cs,RdL cs cs
 |[]=>.nil
 |c::cs=>.cons (Rd.refl c) (RdL.refl cs)
theorem lS{n m:SN}{x:SD n}{y:SD m}(h:oj n m x=some y):∃e:n=m,e ▸ x=y:=by
 unfold oj at h;split at h
 ·rename_i e;simp at h;exact⟨e,h⟩
 ·simp at h
theorem fy{τ:Ty}(hs:JE τ=false){a:AV}{x:den τ}(h:AM τ [a]=some x):aa a=[a]:=by
 cases τ with
 |st n=>cases hs
 |int k=>cases a<;>first|rfl|cases h
 |bool=>cases a<;>first|rfl|cases h
 |str=>cases a<;>first|rfl|cases h
 |lst t=>cases a<;>first|rfl|cases h
 |pt n=>cases a<;>first|rfl|cases h
theorem dA(τ:Ty){a:AV}{x:den τ}(h:arg τ a=some x):RdL (aa a) (cells τ x):=by
 cases τ with
 |st m=>
  cases a with
  |st n y=>obtain⟨e,h⟩:=lS h;subst e;subst h;exact RdL.refl _
  |agg cs=>exact kS (.st m) h
  |_=>cases h
 |int k=>rw[fy rfl (τ:=.int k) (x:=x) h];exact kS (.int k) h
 |bool=>rw[fy rfl (τ:=.bool) (x:=x) h];exact kS .bool h
 |str=>rw[fy rfl (τ:=.str) (x:=x) h];exact kS .str h
 |lst t=>rw[fy rfl (τ:=.lst t) (x:=x) h];exact kS (.lst t) h
 |pt n=>rw[fy rfl (τ:=.pt n) (x:=x) h];exact kS (.pt n) h
theorem V.rd{Ω:Om}{a b:AV}{v:Value}(h:V Ω a v)(r:Rd a b):V Ω b v:=r _ _ h
theorem Mm{Ω:Om}{τ:Ty}{a:AV}{x:den τ}{v:Value}(h:V Ω a v)(ha:arg τ a=some x):V Ω (inj τ x) v:=by
 have hr:=dA τ ha
 cases τ with
 |st m=>
  cases a with
  |st n y=>obtain⟨e,ha⟩:=lS ha;subst e;subst ha;exact h
  |agg cs=>obtain⟨vs,rfl,hv⟩:=h.agg_inv;exact .st m x _ (V.of_agg (hv.rd hr))
  |_=>cases ha
 |int k=>rw[fy rfl (τ:=.int k) (x:=x) ha]at hr;exact h.rd (hr.2 0 a _ rfl rfl)
 |bool=>rw[fy rfl (τ:=.bool) (x:=x) ha]at hr;exact h.rd (hr.2 0 a _ rfl rfl)
 |str=>rw[fy rfl (τ:=.str) (x:=x) ha]at hr;exact h.rd (hr.2 0 a _ rfl rfl)
 |lst t=>rw[fy rfl (τ:=.lst t) (x:=x) ha]at hr;exact h.rd (hr.2 0 a _ rfl rfl)
 |pt n=>rw[fy rfl (τ:=.pt n) (x:=x) ha]at hr;exact h.rd (hr.2 0 a _ rfl rfl)
section
variable {P:Program} {C:Cfg} {o:Oper}
theorem rX{Ω:Om}{τ:Ty}{xs:List (den τ)}{o:Option Nat}{b cap:Nat}{vs:List Value}{ws:Array Value}{ty:Nat}{fz:Nat×Nat}
 (hb:Ω.w.heap[b]?=some (.cells ws ty fz))(hp:ws.toList.take (xs.length *ag τ)=vs)(hv:VL Ω (bD τ xs) vs)
 (hc1:xs.length<=cap)(hc2:cap<=cm)(hpub:∀i,i<xs.length *ag τ->Ω.pub b i)
 (ht:ie Ω o xs.length (.slice (some ⟨b,0,none⟩) xs.length cap)):V Ω (.lst τ xs o) (.slice (some ⟨b,0,none⟩) xs.length cap):=by
 have key:∀(i:Nat)(x:den τ),xs[i]?=some x->∀(j:Nat)(c:AV),(cells τ x)[j]?=some c->
   i *ag τ+j<xs.length *ag τ/\∃v,vs[i *ag τ+j]?=some v/\ws[i *ag τ+j]?=some v/\V Ω c v:=by
  intro i x hx j c hc;have hf:=j9 τ xs i x j c hx hc
  have hlt:i *ag τ+j<(bD τ xs).length:=by
   rcases Nv (i *ag τ+j) (bD τ xs).length with k|k
   ·exact k
   ·rw[Nd k]at hf;cases hf
  have hlt':i *ag τ+j<vs.length:=by rw[<-hv.1];exact hlt
  rw[cp]at hlt;obtain⟨v,hvj⟩:∃v,vs[i *ag τ+j]?=some v:=⟨_,N9 hlt'⟩;refine⟨hlt,v,hvj,?_,hv.2 _ c _ hf hvj⟩;rw[<-hp,NP,N6 hlt,NH]at hvj;exact hvj
 refine .lst τ xs o b 0 cap (fun i j=>(vs[i *ag τ+j]?).getD undef) hc1 hc2 ht (fun i x hx j c hc=>?_) (fun i x hx j c hc=>?_)
 ·obtain⟨h1,v,h2,h3,h4⟩:=key i x hx j c hc;simp only[OQ];refine⟨hpub _ h1,?_⟩;rw[aT hb,h3,h2];rfl
 ·obtain⟨h1,v,h2,h3,h4⟩:=key i x hx j c hc;simp only[h2];exact h4
theorem V.row_cells{Ω:Om}{τ:Ty}{xs:List (den τ)}{b off:Nat}{vals:Nat->Nat->Value}
 (h4:∀(i:Nat)(x:den τ),xs[i]?=some x->∀(j:Nat)(c:AV),(cells τ x)[j]?=some c->
    Ω.pub b (off+(i *ag τ+j))/\Ω.w.cell? ⟨b,off+(i *ag τ+j),none⟩=some (vals i j))
 (h5:∀(i:Nat)(x:den τ),xs[i]?=some x->∀(j:Nat)(c:AV),(cells τ x)[j]?=some c->V Ω c (vals i j)) :
  ∃us:List Value,us.length=xs.length *ag τ/\VL Ω (bD τ xs) us/\∀j u,us[j]?=some u->Ω.w.cell? ⟨b,off+j,none⟩=some u:=by
 induction xs generalizing off vals with
 |nil=>exact⟨[],by simp,VL.nil,fun j u h=>by simp at h⟩
 |cons x xs ih=>
  obtain⟨us,u1,u2,u3⟩:=ih (off:=off+ag τ) (vals:=fun i=>vals (i+1))
   (fun i y hy j c hc=>by
    have:=h4 (i+1) y (by simpa using hy) j c hc;rw[show off+ag τ+(i *ag τ+j)=off+((i+1) *ag τ+j)from by rw[NT];omega];exact this)
   (fun i y hy j c hc=>h5 (i+1) y (by simpa using hy) j c hc)
  have hx:=V.elem (Ω:=Ω) (xs:=x::xs) (b:=b) (off:=off) (vals:=vals) 0 (by simp) h4 h5 (dfl τ);refine⟨(List.ofFn fun j:Fin (ag τ)=>vals 0 j)++us,by simp[u1,NT];omega,?_,fun j u hj=>?_⟩
  ·refine VL.append ⟨by simp[bG],fun j c v hc hv=>?_⟩ u2;rw[List.getElem?_ofFn]at hv;split at hv
   ·simp at hv;subst hv;exact h5 0 x rfl j c hc
   ·simp at hv
  ·by_cases hlt:j<ag τ
   ·rw[Nq (by simpa using hlt),List.getElem?_ofFn]at hj;rw[dif_pos hlt]at hj;simp at hj;subst hj;have hc:(cells τ x)[j]?=some ((cells τ x)[j]'(by rw[bG];exact hlt)):=N9 _;have:=(h4 0 x rfl j _ hc).2;simpa using this
   ·rw[Nr (by simp;omega)]at hj;simp only[List.length_ofFn]at hj;have:=u3 _ u hj;rw[show off+ag τ+(j-ag τ)=off+j from by omega]at this;exact this
theorem oD{Ω:Om}{τ:Ty}:∀(ps:List (Nat×AV))(qs:List (Nat×Value))(i:Nat)(l:List (den τ))(cur:Array Value),
  ps.map (·.1)=qs.map (·.1)->VL Ω (ps.map (·.2)) (qs.map (·.2))->rI τ i ps=some l->(∀p∈ps,(aa p.2).all ng=true)->
  (i+l.length) *ag τ<=cur.size->
  ∃us:List Value,VL Ω (bD τ l) us/\Instr.fill (fun i=>some (i *ag τ,ag τ)) cur qs=some (cur.toList.take (i *ag τ)++us++cur.toList.drop ((i+l.length) *ag τ)).toArray
 |[],qs,i,l,cur,hq,_,hf,_,_=>by
  cases qs with|cons _ _=>simp at hq|nil=>simp[rI]at hf;subst hf;exact⟨[],VL.nil,by simp[Instr.fill]⟩
 |(j,x)::ps,[],i,l,cur,hq,_,_,_,_=>by simp at hq
 |(j,x)::ps,(j',v)::qs,i,l,cur,hq,hv,hf,hlf,hl=>by
  simp only[Nj,PA]at hq;obtain⟨rfl,hq⟩:=hq;simp only[Nj]at hv;simp only[rI]at hf;split at hf
  ·rename_i hji;simp at hji;subst hji;split at hf
   ·rename_i y l' hy hl';simp at hf;subst hf;have hxl:=hlf (j,x) (by simp);have hxv:=hv.head;have hp:=(hxv.parts hxl).rd (dA τ hy);have hvs:v.cells.size=ag τ:=by have:=hp.1;rw[bG]at this;simpa using this.symm
    have hle:j *ag τ+v.cells.size<=cur.size:=by rw[hvs];simp only[N7]at hl;have:(j+1) *ag τ<=(j+(l'.length+1)) *ag τ:=O8 _ (by omega);rw[NT]at this;omega
    rw[uW (place:=fun i=>some (i *ag τ,ag τ)) rfl hvs hle];have hsz:(cur.toList.take (j *ag τ)++v.cells.toList++cur.toList.drop (j *ag τ+v.cells.size)).toArray.size=cur.size:=by simp;omega
    obtain⟨us,u1,u2⟩:=oD ps qs (j+1) l' _ hq hv.tail hl' (fun p hp=>hlf p (by simp[hp])) (by
     rw[hsz];simp only[N7]at hl;rw[show j+1+l'.length=j+(l'.length+1)from by omega];exact hl)
    refine⟨v.cells.toList++us,?_,?_⟩
    ·have:bD τ (y::l')=cells τ y++bD τ l':=by simp[bD]
     rw[this];exact hp.append u1
    ·rw[u2];congr 1;apply Ob;have e1:(j+1) *ag τ=j *ag τ+ag τ:=by rw[NT];omega
     have t1:(cur.toList.take (j *ag τ)++v.cells.toList++cur.toList.drop (j *ag τ+v.cells.size)).take ((j+1) *ag τ)=cur.toList.take (j *ag τ)++v.cells.toList:=by rw[List.take_left' (by simp;omega)]
     have t2:(cur.toList.take (j *ag τ)++v.cells.toList++cur.toList.drop (j *ag τ+v.cells.size)).drop ((j+1+l'.length) *ag τ)=cur.toList.drop ((j+(l'.length+1)) *ag τ):=by
      rw[List.drop_append,List.drop_of_length_le (by
       simp;have:(j+1) *ag τ<=(j+1+l'.length) *ag τ:=O8 _ (by omega);omega),Nk,Pr]
      congr 1;simp;have e2:(j+1+l'.length) *ag τ=j *ag τ+ag τ+l'.length *ag τ:=by rw[NT,NT];omega
      have e3:(j+(l'.length+1)) *ag τ=j *ag τ+(l'.length *ag τ+ag τ):=by rw[NT,NT];omega
      omega
     simp only[N7];rw[t1,t2];simp
   ·simp at hf
  ·simp at hf
theorem uq(hT:cq P C.tbl){t len:Nat}{ps:Array (Nat×Operand)}(hop:o.op=.buildSlice t len ps):dq P C o:=by
 intro F s a Ω eff next Q h hd he ho hn
 simp only[aQ,hop]at he;split at he
 ·rename_i d e sz by' z ty hdst hr
  split at he
  ·rename_i ti size by2 z2 τ hre;split at he
   ·rename_i l hl hB;split at he
    ·rename_i hck;simp only[N4]at hck;obtain⟨⟨hlen,hbig⟩,hlf⟩:=hck;have hlen':=cD _ _ hlen;subst hlen';obtain⟨dd,hd1,hd2⟩:=bJ hT hr rfl;cases dd<;>simp[bS]at hd2;subst hd2;obtain⟨i,zz,i1,i2,i3,i4,i5⟩:=(hT _ _ hre).info;have hw:ag τ=size:=((hT _ _ hre).ty τ rfl).1;have i2':i.size=ag τ:=by rw[hw];exact i2
     have hbig':l.length *size<=1000000:=by simpa using hbig
     have hzl:zz.cells.size=ag τ:=by
      have p1:=(hT _ _ hre).zlen;have:(List.map cQ zz.cells.toList).length=size:=by rw[i5];exact p1
      rw[hw];simpa using this
     let cur:Array Value:=(Array.range (l.length *ag τ)).map fun k=>zz.cells[k%zz.cells.size]!
     have hcs:cur.size=l.length *ag τ:=by simp[cur]
     obtain⟨us,u1,u2⟩:=oD (Ω:=Ω) (ps.toList.map fun(i,x)=>(i,opd s.T x)) (ps.toList.map fun(i,x)=>(i,a.eval x)) 0 l cur
      (by simp[Qe])
      (by
       refine⟨by simp,fun j c v hc hv=>?_⟩;simp only[Q5,NM,NB]at hc hv;obtain⟨x,hx,e⟩:=hc;obtain⟨x',hx',e'⟩:=hv;rw[hx]at hx';simp at hx';subst hx';simp at e e';rw[<-e,<-e'];exact ct h x.2)
      hl
      (by
       intro p hp;exact Ng.1 hlf p hp)
      (by rw[hcs];simp)
     have hul:us.length=l.length *ag τ:=by rw[<-u1.1,cp]
     have hfin:(cur.toList.take (0 *ag τ)++us++cur.toList.drop ((0+l.length) *ag τ)).toArray=us.toArray:=by apply Ob;simp;rw[hcs];omega
     rw[hfin]at u2
     have hrun:(execOp a.eval o).run P Ω.w=.ok (.value (.slice (some ⟨Ω.w.heap.size,0,none⟩) l.length l.length)) (Ω.w.alloc (.cells us.toArray e)):=by
      have hps:(ps.map fun x=>match x with|(i,x)=>(i,a.eval x)).toList=ps.toList.map fun(i,x)=>(i,a.eval x):=by simp
      simp only[execOp,hop,Instr.buildSlice,NA,bQ hd1,Nh,eE i1,i2'];rw[N3 (by rw[hw];omega)];split
      ·rename_i h0;have hcur:((Array.range (l.length *ag τ)).map fun x=>(#[]:Array Value)[x%(#[]:Array Value).size]!)=cur:=by simp[cur,h0]
       simp only[NA,NN,Nh];rw[hcur,hps,u2];simp[newRow]
      ·rename_i h0;simp only[NA,lN i1 i4,NN,Nh];rw[hps];have u2':Instr.fill (fun i=>some (i *ag τ,ag τ)) ((Array.range (l.length *ag τ)).map fun x=>zz.cells[x%zz.cells.size]!) (ps.toList.map fun(i,x)=>(i,a.eval x))=some us.toArray:=u2;rw[u2'];simp[newRow]
     have hlm:l.length<=cm:=by have:l.length *1<=l.length *size:=OK _ (by have:=(hT _ _ hre).pos rfl;exact this);unfold cm;omega
     split at he;rotate_left
     ·simp only[Xs]at he;subst he
      have hh:=h.alloc (d:=d) (c:=.box Ω.w.heap.size 0 (bD τ l).length) (obj:=.box (.row τ l)) (x:=.cells us.toArray e) (p:=fun _=>False)
       (dst:=some d) (val:=.arr d l.length size) (v:=.slice (some ⟨Ω.w.heap.size,0,none⟩) l.length l.length)
       (Or.inl (h.dom d hB)) (fun b o hb=>hb.1)
       (fun hx=>by
        refine⟨Ω.w.heap.size,0,by simp[aa],fun j c' hc=>?_⟩
        have hj:j<us.length:=by
         rw[<-u1.1];rcases Nv j (bD τ l).length with k|k
         ·exact k
         ·rw[show aa (.row τ l)=bD τ l from rfl,Nd k]at hc;cases hc
        have hcells:(Ω.w.alloc (.cells us.toArray e)).heap[Ω.w.heap.size]?=some (.cells us.toArray e (0,0)):=dt _ _;refine⟨Or.inl h.frame.size,fun hp=>?_,fG hcells _,us[j],?_,(u1.2 j c' _ hc (by simp[hj])).ext hx⟩
        ·rcases hp with hp|⟨_,hp⟩
         ·have:=h.cell_lt hp;omega
         ·exact hp
        ·simp only[OQ];rw[aT hcells];simp[hj])
       (fun _ hf=>hf.elim)
       (fun hx=>.arr d l.length size Ω.w.heap.size (bD τ l).length l.length _ (by simp) (by rw[cp,hw];exact Nf _) (Nf _) hlm (.inl rfl))
       (fun d' hd'=>by simp at hd';subst hd';exact hd d hdst)
      refine bx hrun ?_;rw[hdst]at hn⊢;exact hn _ _ hh
     simp only[Xs]at he;subst he
     have hh:=h.alloc (d:=d) (c:=.tail l.length (some Ω.w.heap.size) l.length) (obj:=.tail τ l.length) (x:=.cells us.toArray e) (p:=fun o=>o<l.length *ag τ)
      (dst:=some d) (val:=.lst τ l (some d)) (v:=.slice (some ⟨Ω.w.heap.size,0,none⟩) l.length l.length)
      (Or.inl (h.dom d hB)) (fun b o hb=>by simpa[occ]using hb.symm)
      (fun hx=>by
       refine⟨some Ω.w.heap.size,l.length,by simp,Nf _,?_,by simp,fun b hb=>?_⟩
       ·have:l.length *1<=l.length *size:=OK _ (by have:=(hT _ _ hre).pos rfl;exact this);unfold cm;omega
       ·simp at hb;subst hb;refine⟨fun _=>Or.inl h.frame.size,us.toArray,e,(0,0),dt _ _,rfl,by simp[hul],fun o ho hp=>?_⟩;rcases hp with hp|⟨_,hp⟩
        ·have:=h.cell_lt hp;omega
        ·omega)
      (fun o ho=>by
       rw[aT (dt _ _)];exact⟨us[o]'(by omega),by simp[hul,ho]⟩)
      (fun hx=>by
       refine rX (vs:=us) (dt _ _) (by rw[<-hul];simp) (u1.ext hx) (Nf _) ?_ (fun i hi=>Or.inr ⟨rfl,hi⟩) ?_
       ·have:l.length *1<=l.length *size:=OK _ (by have:=(hT _ _ hre).pos rfl;exact this);unfold cm;omega
       ·intro id hid;simp at hid;subst hid;exact⟨l.length,some Ω.w.heap.size,l.length,by simp,Nf _,fun _=>rfl⟩)
      (fun d' hd'=>by simp at hd';subst hd';exact hd d hdst)
     refine bx hrun ?_;rw[hdst]at hn⊢;exact hn _ _ hh
    ·simp at he
   ·simp at he
  ·simp at he
 ·simp at he
end
end Go.AL
end
