/- The layer: Go code as conditions, and that they are sound. No condition. -/
import Derived.KernelRfl
import Derived.Laws.AppendOwn
import Derived.Laws.CopyRow
import Derived.Laws.StructEq
import Derived.Lib.FrozenHead
import Derived.Orders
set_option linter.all false
set_option maxRecDepth 100000
def NY:=@List.getElem?_eq_getElem
def NZ:=@Bool.and_eq_true
def O0:=@if_neg
def O1:=@decide_eq_true_eq
def O2:=@List.getElem?_eq_none
def O3:=@if_pos
def O4:=@List.getD_eq_getElem?_getD
def O5:=@Nat.lt_or_ge
def O6:=@Go.Result.andThen_ok
def O7:=@List.mem_cons
def O8:=@List.length_cons
def O9:=@List.all_eq_true
def Oa:=@Bool.not_eq_true'
def Ob:=@List.getElem?_append_left
def Oc:=@List.eq_nil_of_length_eq_zero
def Od:=@Nat.le_refl
def Oe:=@List.getElem?_append_right
def Of:=@Nat.zero_le
def Og:=@List.mem_cons_of_mem
def Oh:=@Array.getElem?_toList
def Oi:=@Int.toNat_natCast
def Oj:=@List.length_append
def Ol:=@List.drop_length
def On:=@Nat.eq_of_beq_eq_true
def Oo:=@Array.getD_eq_getD_getElem?
def Oq:=@Bool.false_and
def Ot:=@List.mem_of_getElem?
def Ou:=@Go.Sem.run_bind
def Ov:=@Option.map_eq_some_iff
def Ow:=@List.mem_append
def Ox:=@List.mem_cons_self
def Oy:=@List.getElem?_take
def Oz:=@Array.getElem?_eq_getElem
def OA:=@List.getElem?_eq_some_iff
def OB:=@Array.getElem?_eq_some_iff
def OC:=@List.mem_map
def OD:=@List.getElem?_map
def OE:=@List.append_assoc
def OF:=@decide_eq_false_iff_not
def OG:=@Option.some.inj
def OH:=@List.mem_singleton
def OI:=@List.length_singleton
def OJ:=@List.map_cons
def OK:=@and_true
def OL:=@if_false
def OM:=@Array.getElem?_eq_none
def ON:=@List.length_nil
def OO:=@List.mem_filter
def OP:=@Nat.mul_le_mul_right
def OQ:=@List.cons_append
def OR:=@Go.Sem.run_pure
def OS:=@Bool.or_eq_true
def OT:=@Nat.le_trans
def OU:=@Nat.add_mul
def OV:=@true_and
def OW:=@Bool.true_and
def OX:=@Option.getD_some
def OY:=@List.take_length
def OZ:=@List.contains_eq_mem
def P0:=@Nat.zero_add
def P1:=@if_true
def P2:=@List.append_nil
def P3:=@List.length_map
def P4:=@Bool.false_eq_true
def P5:=@Bool.false_ne_true
def P6:=@List.all_cons
def P7:=@Bool.and_false
def P8:=@List.cons.injEq
def P9:=@List.getElem?_drop
def Pa:=@beq_iff_eq
def Pb:=@List.pairwise_iff_getElem
def Pc:=@Go.run_underlying
def Pe:=@List.drop_zero
def Pf:=@Go.setRow_other
def Pg:=@decide_eq_decide
def Ph:=@List.take_succ_cons
def Pj:=@Array.ext'
def Pk:=@List.getElem?_toArray
def Pl:=@Array.getElem?_modify
def Pm:=@List.pairwise_cons
def Pn:=@List.nil_append
def Po:=@Go.Value.slice.injEq
def Pp:=@List.mem_flatMap
def Pq:=@List.drop_succ_cons
def Pr:=@Option.map_some
def Ps:=@List.length_eq_zero_iff
def Pt:=@List.length_take
def Pu:=@Array.replicate_succ
def Pv:=@Array.replicate_zero
def Pw:=@eq_self
def Px:=@List.append_toArray
def Py:=@List.mem_range
def Pz:=@List.not_mem_nil
def PA:=@List.nodup_iff_pairwise_ne
def PB:=@List.size_toArray
def PC:=@Bool.eq_false_iff
def PD:=@Nat.le_add_right
def PE:=@Array.length_toList
def PF:=@Nat.mul_le_mul_left
def PG:=@List.length_pos_iff
def PH:=@List.push_toArray
def PI:=@Array.toArray_toList
def PJ:=@List.take_zero
def PK:=@Decidable.byContradiction
def PL:=@Array.getElem?_push
def PM:=@List.flatMap_cons
def PN:=@List.cons_lt_cons_iff
def PO:=@Nat.add_assoc
def PQ:=@Bool.eq_false_or_eq_true
def PR:=@Nat.add_zero
def PT:=@congrArg
def PU:=@List.pairwise_append
def PV:=@List.getElem?_of_mem
def PW:=@Nat.mul_comm
def PX:=@getElem!_pos
def PY:=@Bool.not_eq_false
def PZ:=@List.getElem_of_mem
def Q0:=@Array.toList_filter
def Q1:=@List.map_append
def Q2:=@Classical.em
def Q3:=@Go.Obj.cells.inj
def Q4:=@List.getElem?_cons_zero
def Q5:=@List.pairwise_map
def Q6:=@ite_congr
def Q7:=@Option.map_none
def Q8:=@List.nodup_cons
def Q9:=@UInt8.lt_irrefl
def Qa:=@beq_eq_false_iff_ne
def Qb:=@List.take_of_length_le
def Qc:=@Go.MapKept.run_setObj_map
def Qd:=@List.le_antisymm
def Qe:=@List.length_drop
def Qf:=@Nat.le_max_right
def Qg:=@Nat.eq_zero_or_pos
def Qh:=@List.mem_mergeSort
def Qi:=@Array.getElem?_append_left
def Qj:=@Array.mem_iff_getElem
def Qk:=@List.take_append_drop
def Ql:=@List.set_eq_take_append_cons_drop
def Qm:=@List.drop_eq_getElem_cons
def Qn:=@Classical.byContradiction
def Qo:=@Nat.le_max_left
def Qp:=@not_false_eq_true
def Qq:=@Array.mem_toList_iff
def Qr:=@List.ext_getElem?
def Qs:=@Go.wp_mono
def Qt:=@Go.Addr.mk.injEq
def Qu:=@Prod.mk.injEq
def Qv:=@Nat.blt_eq
def Qw:=@List.mergeSort_perm
def Qx:=@Nat.add_sub_cancel_left
def Qy:=@Go.size_zeroCells
def Qz:=@List.getElem?_cons_succ
def QA:=@Option.bind_eq_some_iff
def QB:=@List.pairwise_mergeSort
def QC:=@List.take_append_of_le_length
def QD:=@Go.run_storeCells_atF
def QE:=@Go.MapKept.run_getObj_map
def QF:=@List.map_singleton
def QG:=@List.length_filter_le
def QH:=@not_true_eq_false
def QI:=@List.getElem?_append
def QJ:=@Go.run_append_nil
def QK:=@List.getElem_mem
def QM:=@Nat.sub_zero
def QN:=@beq_self_eq_true
def QO:=@Nat.sub_self
def QP:=@Go.DataW.trod_slice
def QQ:=@Bool.not_eq_true
def QR:=@List.extract_eq_take_drop
def QS:=@List.map_eq_flatMap
def QT:=@List.map_congr_left
def QU:=@List.dropWhile_cons
def QV:=@List.foldl_cons
def QW:=@List.mem_replicate
def QX:=@Nat.one_mul
def QY:=@Go.wp_region
def QZ:=@List.mapM_toArray
def R0:=@decide_false
def R1:=@Nat.lt_trichotomy
def R2:=@Array.all_eq_true
def R3:=@Bool.not_false
def R4:=@Nat.lt_trans
def R5:=@Go.World.cells?_some
def R6:=@UInt8.not_lt
def R7:=@Array.getElem?_setIfInBounds_ne
def R8:=@Nat.mod_eq_of_lt
def R9:=@List.getElem_map
def Ra:=@List.le_total
def Rb:=@List.mem_iff_getElem
def Rc:=@Nat.div_lt_of_lt_mul
def Re:=@Go.MapKept.run_checkKey
def Rf:=@or_false
def Rh:=@List.not_lt
def Ri:=@Nat.le_succ
def Rj:=@Array.getElem_toList
def Rk:=@Nat.div_add_mod
def Rl:=@Nat.mul_add_mod
def Rm:=@Go.run_firstCells_some
def Ro:=@List.filterMap_cons
def Rp:=@Array.contains_push
def Rr:=@Go.World.grownBy_alloc
def Rs:=@Bool.not_not
def Rt:=@Go.mem_ready
def Ru:=@Nat.ble_eq
def Rv:=@Go.run_loadCells_list
def Rw:=@Go.run_equalIn_struct
def Rx:=@Go.growslice_fits
def Ry:=@not_or
def Rz:=@Nat.lt_of_lt_of_le
def RA:=@Function.comp_def
def RB:=@List.nodup_append
def RD:=@List.getElem?_set
def RE:=@Nat.mul_one
def RF:=@UInt8.le_antisymm
def RG:=@Array.toList_push
def RH:=@Nat.lt_irrefl
def RI:=@Go.wp_seq
def RJ:=@Bool.not_true
def RL:=@Bool.false_or
def RM:=@Go.step_loop
def RN:=@List.map_nil
def RO:=@Nat.mod_lt
def RP:=@Ne.symm
def RQ:=@Nat.beq_refl
def RR:=@List.all_nil
theorem Xr{p:Prop}(h:p:=by repeat (first|exact trivial|refine⟨by first|rfl|trivial,?_⟩)):p:=h
theorem Xo{p:Prop}[Decidable p](h:decide p=true):p:=of_decide_eq_true h
theorem Xd{p:Prop}[Decidable p](h:p):decide p=true:=decide_eq_true h
theorem Xt{P:Go.Program}{k:Nat}{f g:Go.Func}(h:P.funcs[k]?=some f)(e:f=g:=by kernel_rfl):P.funcs[k]?=some g:=h.trans (PT some e)
theorem Xs{α:Type _}(a b:α):(some a=some b)=(a=b):=Option.some.injEq a b
theorem Xf{p:Prop}[Decidable p](h:¬p):decide p=false:=decide_eq_false h
noncomputable section
namespace Go.AL
abbrev Str:=List UInt8
structure Shape where
 kind:Int
 pkg:Str
 name:Str
 names:List Str
 parts:List Shape
instance:Inhabited Shape:=⟨⟨0,[],[],[],[]⟩⟩
structure Item where
 kind:Int
 name:Str
 shape:Shape
instance:Inhabited Item:=⟨⟨0,[],default⟩⟩
structure Change where
 kind:Int
 name:Str
instance:Inhabited Change:=⟨⟨0,[]⟩⟩
structure Tokn where
 kind:Int
 text:Str
 pos:Int
instance:Inhabited Tokn:=⟨⟨0,[],0⟩⟩
structure Flt where
 err:Int
 pos:Int
instance:Inhabited Flt:=⟨⟨0,0⟩⟩
structure Trm where
 kind:Int
 pkg:Str
 name:Str
 n:Int
 names:List Str
 vars:List Str
 shapes:List Shape
 parts:List Trm
 pos:Int
instance:Inhabited Trm:=⟨⟨0,[],[],0,[],[],[],[],0⟩⟩
structure Vers where
 major:Int
 minor:Int
 patch:Int
 pre:Str
instance:Inhabited Vers:=⟨⟨0,0,0,[]⟩⟩
structure Bnd where
 op:Int
 v:Vers
instance:Inhabited Bnd:=⟨⟨0,default⟩⟩
structure Impt where
 name:Str
 pin:Vers
 range:List Bnd
 pos:Int
instance:Inhabited Impt:=⟨⟨[],default,[],0⟩⟩
structure Dcl where
 kind:Int
 name:Str
 shape:Shape
 term:Trm
 pos:Int
instance:Inhabited Dcl:=⟨⟨0,[],default,default,0⟩⟩
structure Modu where
 name:Str
 imports:List Impt
 decls:List Dcl
 exports:List Str
 pos:Int
instance:Inhabited Modu:=⟨⟨[],[],[],[],0⟩⟩
structure Bndg where
 pkg:Str
 name:Str
 shape:Shape
instance:Inhabited Bndg:=⟨⟨[],[],default⟩⟩
structure Envt where
 self:Str
 types:List Bndg
 values:List Bndg
 own:List Bndg
instance:Inhabited Envt:=⟨⟨[],[],[],[]⟩⟩
structure Depd where
 name:Str
 items:List Item
instance:Inhabited Depd:=⟨⟨[],[]⟩⟩
structure Vlu where
 kind:Int
 n:Int
 pkg:Str
 text:Str
 names:List Str
 parts:List Vlu
instance:Inhabited Vlu:=⟨⟨0,0,[],[],[],[]⟩⟩
structure Cel where
 name:Str
 value:Vlu
instance:Inhabited Cel:=⟨⟨[],default⟩⟩
structure Opn where
 kind:Int
 n:Int
 name:Str
 names:List Str
 tos:List Int
 pos:Int
instance:Inhabited Opn:=⟨⟨0,0,[],[],[],0⟩⟩
structure Chnk where
 args:Int
 ops:List Opn
instance:Inhabited Chnk:=⟨⟨0,[]⟩⟩
structure Usg where
 pkg:Str
 name:Str
instance:Inhabited Usg:=⟨⟨[],[]⟩⟩
structure Nam where
 pkg:Str
 name:Str
 deriving DecidableEq
instance:Inhabited Nam:=⟨⟨[],[]⟩⟩
structure Stt where
 things:Int
 names:Int
instance:Inhabited Stt:=⟨⟨0,0⟩⟩
structure Par where
 toks:List Tokn
 pos:Int
 err:Int
 fat:Int
instance:Inhabited Par:=⟨⟨[],0,0,0⟩⟩
structure Rstt where
 known:Bool
 things:Int
 names:Int
instance:Inhabited Rstt:=⟨⟨false,0,0⟩⟩
mutual
inductive Thg where
 |mk (kind:Int) (n:Int) (pkg:Str) (text:Str) (names:List Str) (parts:List Thg) (fn:Option Fnc)
inductive Fnc where
 |mk (scp:Option Scp) (self:Str) (names:List Str) (body:Option Trm) (basic:Str) (args:Int)
inductive Scp where
 |mk (pkg:Str) (name:Str) (what:Thg) (rest:Option Scp)
end
def Thg.kind:Thg->Int|⟨x,_,_,_,_,_,_⟩=>x
def Thg.n:Thg->Int|⟨_,x,_,_,_,_,_⟩=>x
def Thg.pkg:Thg->Str|⟨_,_,x,_,_,_,_⟩=>x
def Thg.text:Thg->Str|⟨_,_,_,x,_,_,_⟩=>x
def Thg.names:Thg->List Str|⟨_,_,_,_,x,_,_⟩=>x
def Thg.parts:Thg->List Thg|⟨_,_,_,_,_,x,_⟩=>x
def Thg.fn:Thg->Option Fnc|⟨_,_,_,_,_,_,x⟩=>x
def Fnc.scp:Fnc->Option Scp|⟨x,_,_,_,_,_⟩=>x
def Fnc.self:Fnc->Str|⟨_,x,_,_,_,_⟩=>x
def Fnc.names:Fnc->List Str|⟨_,_,x,_,_,_⟩=>x
def Fnc.body:Fnc->Option Trm|⟨_,_,_,x,_,_⟩=>x
def Fnc.basic:Fnc->Str|⟨_,_,_,_,x,_⟩=>x
def Fnc.args:Fnc->Int|⟨_,_,_,_,_,x⟩=>x
def Scp.pkg:Scp->Str|⟨x,_,_,_⟩=>x
def Scp.name:Scp->Str|⟨_,x,_,_⟩=>x
def Scp.what:Scp->Thg|⟨_,_,x,_⟩=>x
def Scp.rest:Scp->Option Scp|⟨_,_,_,x⟩=>x
instance:Inhabited Thg:=⟨⟨0,0,[],[],[],[],none⟩⟩
instance:Inhabited Fnc:=⟨⟨none,[],[],none,[],0⟩⟩
instance:Inhabited Scp:=⟨⟨[],[],default,none⟩⟩
structure Plc where
 scp:Option Scp
 self:Str
instance:Inhabited Plc:=⟨⟨none,[]⟩⟩
structure Exp where
 name:Str
 what:Thg
 pos:Int
instance:Inhabited Exp:=⟨⟨[],default,0⟩⟩
inductive SN where
 |shape|item|change|token|fault|term|version|bound|imp|decl|modu|bind|env|dep|val|cell|op|chunk|usg|nm|stt|par|rstt|thing|func|scope|plc|exp
 deriving DecidableEq
inductive Ty where
 |int (k:IntKind)|bool|str|lst (t:Ty)|st (n:SN)|pt (n:SN)
 deriving DecidableEq
@[reducible] def SD:SN->Type
 |.shape=>Shape
 |.item=>Item
 |.change=>Change
 |.token=>Tokn
 |.fault=>Flt
 |.term=>Trm
 |.version=>Vers
 |.bound=>Bnd
 |.imp=>Impt
 |.decl=>Dcl
 |.modu=>Modu
 |.bind=>Bndg
 |.env=>Envt
 |.dep=>Depd
 |.val=>Vlu
 |.cell=>Cel
 |.op=>Opn
 |.chunk=>Chnk
 |.usg=>Usg
 |.nm=>Nam
 |.stt=>Stt
 |.par=>Par
 |.rstt=>Rstt
 |.thing=>Thg
 |.func=>Fnc
 |.scope=>Scp
 |.plc=>Plc
 |.exp=>Exp
@[reducible] def den:Ty->Type
 |.int _=>Int
 |.bool=>Bool
 |.str=>Str
 |.lst t=>List (den t)
 |.st n=>SD n
 |.pt n=>Option (SD n)
def dfl:(τ:Ty)->den τ
 |.int _=>(0:Int)
 |.bool=>false
 |.str=>([]:Str)
 |.lst _=>[]
 |.pt _=>none
 |.st .shape=>(default:Shape)
 |.st .item=>(default:Item)
 |.st .change=>(default:Change)
 |.st .token=>(default:Tokn)
 |.st .fault=>(default:Flt)
 |.st .term=>(default:Trm)
 |.st .version=>(default:Vers)
 |.st .bound=>(default:Bnd)
 |.st .imp=>(default:Impt)
 |.st .decl=>(default:Dcl)
 |.st .modu=>(default:Modu)
 |.st .bind=>(default:Bndg)
 |.st .env=>(default:Envt)
 |.st .dep=>(default:Depd)
 |.st .val=>(default:Vlu)
 |.st .cell=>(default:Cel)
 |.st .op=>(default:Opn)
 |.st .chunk=>(default:Chnk)
 |.st .usg=>(default:Usg)
 |.st .nm=>(default:Nam)
 |.st .stt=>(default:Stt)
 |.st .par=>(default:Par)
 |.st .rstt=>(default:Rstt)
 |.st .thing=>(default:Thg)
 |.st .func=>(default:Fnc)
 |.st .scope=>(default:Scp)
 |.st .plc=>(default:Plc)
 |.st .exp=>(default:Exp)
inductive AV where
 |undef
 |int (k:IntKind) (n:Int)
 |bool (b:Bool)
 |str (s:Str)
 |lst (τ:Ty) (xs:List (den τ)) (o:Option Nat)
 |nils
 |ptr (id off:Nat)
 |cptr (c:AV)
 |nilp
 |pt (n:SN) (x:Option (SD n))
 |st (n:SN) (x:SD n)
 |agg (cs:List AV)
 |tup (vs:List AV)
 |fn (f:Nat) (cs:List AV)
 |row (τ:Ty) (xs:List (den τ))
 |arr (id n w:Nat)
 |aptr (id i w off:Nat)
 |map (id:Nat)
 |bptr (id:Nat)
 |iface (t:Nat) (a:AV)
 |nilif
 |nilm
 |lstp (τ:Ty) (xs:List (den τ)) (k:Nat)
 |tptr (τ:Ty) (n k:Nat)
 |glst (s n k:Nat)
 |gptr (k s i w off:Nat)
 |gsuf (k s i w m:Nat)
instance:Inhabited AV:=⟨.undef⟩
def de(x:Shape):List AV:=.int .i64 x.kind::(.str x.pkg::(.str x.name::(.lst .str x.names none::(.lst (.st .shape) x.parts none::[]))))
def dN(x:Item):List AV:=.int .i64 x.kind::(.str x.name::(de x.shape++[]))
def dW(x:Change):List AV:=.int .i64 x.kind::(.str x.name::[])
def eI(x:Tokn):List AV:=.int .i64 x.kind::(.str x.text::(.int .i64 x.pos::[]))
def eJ(x:Flt):List AV:=.int .i64 x.err::(.int .i64 x.pos::[])
def fh(x:Trm):List AV:=.int .i64 x.kind::(.str x.pkg::(.str x.name::(.int .i64 x.n::(.lst .str x.names none::(.lst .str x.vars none::(.lst (.st .shape) x.shapes none::(.lst (.st .term) x.parts none::(.int .i64 x.pos::[]))))))))
def cG(x:Vers):List AV:=.int .i64 x.major::(.int .i64 x.minor::(.int .i64 x.patch::(.str x.pre::[])))
def eL(x:Bnd):List AV:=.int .i64 x.op::(cG x.v++[])
def hZ(x:Impt):List AV:=.str x.name::(cG x.pin++(.lst (.st .bound) x.range none::(.int .i64 x.pos::[])))
def fJ(x:Dcl):List AV:=.int .i64 x.kind::(.str x.name::(de x.shape++(fh x.term++(.int .i64 x.pos::[]))))
def fK(x:Modu):List AV:=.str x.name::(.lst (.st .imp) x.imports none::(.lst (.st .decl) x.decls none::(.lst .str x.exports none::(.int .i64 x.pos::[]))))
def fL(x:Bndg):List AV:=.str x.pkg::(.str x.name::(de x.shape++[]))
def ib(x:Envt):List AV:=.str x.self::(.lst (.st .bind) x.types none::(.lst (.st .bind) x.values none::(.lst (.st .bind) x.own none::[])))
def ic(x:Depd):List AV:=.str x.name::(.lst (.st .item) x.items none::[])
def fY(x:Vlu):List AV:=.int .i64 x.kind::(.int .i64 x.n::(.str x.pkg::(.str x.text::(.lst .str x.names none::(.lst (.st .val) x.parts none::[])))))
def fM(x:Cel):List AV:=.str x.name::(fY x.value++[])
def jq(x:Opn):List AV:=.int .i64 x.kind::(.int .i64 x.n::(.str x.name::(.lst .str x.names none::(.lst (.int .i64) x.tos none::(.int .i64 x.pos::[])))))
def eM(x:Chnk):List AV:=.int .i64 x.args::(.lst (.st .op) x.ops none::[])
def ie(x:Usg):List AV:=.str x.pkg::(.str x.name::[])
def fZ(x:Nam):List AV:=.str x.pkg::(.str x.name::[])
def ig(x:Stt):List AV:=.int .i64 x.things::(.int .i64 x.names::[])
def ij(x:Par):List AV:=.lst (.st .token) x.toks none::(.int .i64 x.pos::(.int .i64 x.err::(.int .i64 x.fat::[])))
def fN(x:Rstt):List AV:=.bool x.known::(.int .i64 x.things::(.int .i64 x.names::[]))
def dF(x:Thg):List AV:=.int .i64 x.kind::(.int .i64 x.n::(.str x.pkg::(.str x.text::(.lst .str x.names none::(.lst (.st .thing) x.parts none::(.pt .func x.fn::[]))))))
def fO(x:Fnc):List AV:=.pt .scope x.scp::(.str x.self::(.lst .str x.names none::(.pt .term x.body::(.str x.basic::(.int .i64 x.args::[])))))
def eP(x:Scp):List AV:=.str x.pkg::(.str x.name::(dF x.what++(.pt .scope x.rest::[])))
def ik(x:Plc):List AV:=.pt .scope x.scp::(.str x.self::[])
def il(x:Exp):List AV:=.str x.name::(dF x.what++(.int .i64 x.pos::[]))
def cells:(τ:Ty)->den τ->List AV
 |.int k,n=>[.int k n]
 |.bool,b=>[.bool b]
 |.str,s=>[.str s]
 |.lst t,l=>[.lst t l none]
 |.pt n,x=>[.pt n x]
 |.st .shape,x=>de x
 |.st .item,x=>dN x
 |.st .change,x=>dW x
 |.st .token,x=>eI x
 |.st .fault,x=>eJ x
 |.st .term,x=>fh x
 |.st .version,x=>cG x
 |.st .bound,x=>eL x
 |.st .imp,x=>hZ x
 |.st .decl,x=>fJ x
 |.st .modu,x=>fK x
 |.st .bind,x=>fL x
 |.st .env,x=>ib x
 |.st .dep,x=>ic x
 |.st .val,x=>fY x
 |.st .cell,x=>fM x
 |.st .op,x=>jq x
 |.st .chunk,x=>eM x
 |.st .usg,x=>ie x
 |.st .nm,x=>fZ x
 |.st .stt,x=>ig x
 |.st .par,x=>ij x
 |.st .rstt,x=>fN x
 |.st .thing,x=>dF x
 |.st .func,x=>fO x
 |.st .scope,x=>eP x
 |.st .plc,x=>ik x
 |.st .exp,x=>il x
def ab:Ty->Nat
 |.st .shape=>5
 |.st .item=>7
 |.st .change=>2
 |.st .token=>3
 |.st .fault=>2
 |.st .term=>9
 |.st .version=>4
 |.st .bound=>5
 |.st .imp=>7
 |.st .decl=>17
 |.st .modu=>5
 |.st .bind=>7
 |.st .env=>4
 |.st .dep=>2
 |.st .val=>6
 |.st .cell=>7
 |.st .op=>6
 |.st .chunk=>2
 |.st .usg=>2
 |.st .nm=>2
 |.st .stt=>2
 |.st .par=>4
 |.st .rstt=>3
 |.st .thing=>7
 |.st .func=>6
 |.st .scope=>10
 |.st .plc=>2
 |.st .exp=>9
 |_=>1
def l8(n m:SN)(x:SD n):Option (SD m):=if h:n=m then some (h ▸ x)else none
def fy(τ σ:Ty)(xs:List (den τ)):Option (List (den σ)):=if h:τ=σ then some (h ▸ xs)else none
def asInt(k:IntKind):AV->Option Int
 |.int k' n=>if k'=k then some n else none
 |_=>none
def rA:AV->Option Bool
 |.bool b=>some b
 |_=>none
def cR:AV->Option Str
 |.str s=>some s
 |_=>none
def dX(σ:Ty):AV->Option (List (den σ))
 |.lst τ xs _=>fy τ σ xs
 |.nils=>some []
 |_=>none
def qh(n m:SN)(x:Option (SD n)):Option (Option (SD m)):=if h:n=m then some (h ▸ x)else none
def yU(n:SN):AV->Option (Option (SD n))
 |.pt m x=>qh m n x
 |.nilp=>some none
 |.cptr (.st m x)=>qh m n (some x)
 |_=>none
def iU:List AV->Option Shape
 |[c0,c1,c2,c3,c4]=>
  match asInt .i64 c0,cR c1,cR c2,dX .str c3,dX (.st .shape) c4 with
  |some x0,some x1,some x2,some x3,some x4=>some ⟨x0,x1,x2,x3,x4⟩
  |_,_,_,_,_=>none
 |_=>none
def rR:List AV->Option Item
 |[c0,c1,c2,c3,c4,c5,c6]=>
  match asInt .i64 c0,cR c1,iU [c2,c3,c4,c5,c6]with
  |some x0,some x1,some x2=>some ⟨x0,x1,x2⟩
  |_,_,_=>none
 |_=>none
def nv:List AV->Option Change
 |[c0,c1]=>
  match asInt .i64 c0,cR c1 with
  |some x0,some x1=>some ⟨x0,x1⟩
  |_,_=>none
 |_=>none
def pj:List AV->Option Tokn
 |[c0,c1,c2]=>
  match asInt .i64 c0,cR c1,asInt .i64 c2 with
  |some x0,some x1,some x2=>some ⟨x0,x1,x2⟩
  |_,_,_=>none
 |_=>none
def pk:List AV->Option Flt
 |[c0,c1]=>
  match asInt .i64 c0,asInt .i64 c1 with
  |some x0,some x1=>some ⟨x0,x1⟩
  |_,_=>none
 |_=>none
def oc:List AV->Option Trm
 |[c0,c1,c2,c3,c4,c5,c6,c7,c8]=>
  match asInt .i64 c0,cR c1,cR c2,asInt .i64 c3,dX .str c4,dX .str c5,dX (.st .shape) c6,dX (.st .term) c7,asInt .i64 c8 with
  |some x0,some x1,some x2,some x3,some x4,some x5,some x6,some x7,some x8=>some ⟨x0,x1,x2,x3,x4,x5,x6,x7,x8⟩
  |_,_,_,_,_,_,_,_,_=>none
 |_=>none
def im:List AV->Option Vers
 |[c0,c1,c2,c3]=>
  match asInt .i64 c0,asInt .i64 c1,asInt .i64 c2,cR c3 with
  |some x0,some x1,some x2,some x3=>some ⟨x0,x1,x2,x3⟩
  |_,_,_,_=>none
 |_=>none
def pn:List AV->Option Bnd
 |[c0,c1,c2,c3,c4]=>
  match asInt .i64 c0,im [c1,c2,c3,c4]with
  |some x0,some x1=>some ⟨x0,x1⟩
  |_,_=>none
 |_=>none
def xa:List AV->Option Impt
 |[c0,c1,c2,c3,c4,c5,c6]=>
  match cR c0,im [c1,c2,c3,c4],dX (.st .bound) c5,asInt .i64 c6 with
  |some x0,some x1,some x5,some x6=>some ⟨x0,x1,x5,x6⟩
  |_,_,_,_=>none
 |_=>none
def rS:List AV->Option Dcl
 |[c0,c1,c2,c3,c4,c5,c6,c7,c8,c9,c10,c11,c12,c13,c14,c15,c16]=>
  match asInt .i64 c0,cR c1,iU [c2,c3,c4,c5,c6],oc [c7,c8,c9,c10,c11,c12,c13,c14,c15],asInt .i64 c16 with
  |some x0,some x1,some x2,some x7,some x16=>some ⟨x0,x1,x2,x7,x16⟩
  |_,_,_,_,_=>none
 |_=>none
def rT:List AV->Option Modu
 |[c0,c1,c2,c3,c4]=>
  match cR c0,dX (.st .imp) c1,dX (.st .decl) c2,dX .str c3,asInt .i64 c4 with
  |some x0,some x1,some x2,some x3,some x4=>some ⟨x0,x1,x2,x3,x4⟩
  |_,_,_,_,_=>none
 |_=>none
def rU:List AV->Option Bndg
 |[c0,c1,c2,c3,c4,c5,c6]=>
  match cR c0,cR c1,iU [c2,c3,c4,c5,c6]with
  |some x0,some x1,some x2=>some ⟨x0,x1,x2⟩
  |_,_,_=>none
 |_=>none
def xb:List AV->Option Envt
 |[c0,c1,c2,c3]=>
  match cR c0,dX (.st .bind) c1,dX (.st .bind) c2,dX (.st .bind) c3 with
  |some x0,some x1,some x2,some x3=>some ⟨x0,x1,x2,x3⟩
  |_,_,_,_=>none
 |_=>none
def xc:List AV->Option Depd
 |[c0,c1]=>
  match cR c0,dX (.st .item) c1 with
  |some x0,some x1=>some ⟨x0,x1⟩
  |_,_=>none
 |_=>none
def rB:List AV->Option Vlu
 |[c0,c1,c2,c3,c4,c5]=>
  match asInt .i64 c0,asInt .i64 c1,cR c2,cR c3,dX .str c4,dX (.st .val) c5 with
  |some x0,some x1,some x2,some x3,some x4,some x5=>some ⟨x0,x1,x2,x3,x4,x5⟩
  |_,_,_,_,_,_=>none
 |_=>none
def rV:List AV->Option Cel
 |[c0,c1,c2,c3,c4,c5,c6]=>
  match cR c0,rB [c1,c2,c3,c4,c5,c6]with
  |some x0,some x1=>some ⟨x0,x1⟩
  |_,_=>none
 |_=>none
def Cd:List AV->Option Opn
 |[c0,c1,c2,c3,c4,c5]=>
  match asInt .i64 c0,asInt .i64 c1,cR c2,dX .str c3,dX (.int .i64) c4,asInt .i64 c5 with
  |some x0,some x1,some x2,some x3,some x4,some x5=>some ⟨x0,x1,x2,x3,x4,x5⟩
  |_,_,_,_,_,_=>none
 |_=>none
def po:List AV->Option Chnk
 |[c0,c1]=>
  match asInt .i64 c0,dX (.st .op) c1 with
  |some x0,some x1=>some ⟨x0,x1⟩
  |_,_=>none
 |_=>none
def xe:List AV->Option Usg
 |[c0,c1]=>
  match cR c0,cR c1 with
  |some x0,some x1=>some ⟨x0,x1⟩
  |_,_=>none
 |_=>none
def Ce:List AV->Option Nam
 |[c0,c1]=>
  match cR c0,cR c1 with
  |some x0,some x1=>some ⟨x0,x1⟩
  |_,_=>none
 |_=>none
def xf:List AV->Option Stt
 |[c0,c1]=>
  match asInt .i64 c0,asInt .i64 c1 with
  |some x0,some x1=>some ⟨x0,x1⟩
  |_,_=>none
 |_=>none
def xg:List AV->Option Par
 |[c0,c1,c2,c3]=>
  match dX (.st .token) c0,asInt .i64 c1,asInt .i64 c2,asInt .i64 c3 with
  |some x0,some x1,some x2,some x3=>some ⟨x0,x1,x2,x3⟩
  |_,_,_,_=>none
 |_=>none
def rW:List AV->Option Rstt
 |[c0,c1,c2]=>
  match rA c0,asInt .i64 c1,asInt .i64 c2 with
  |some x0,some x1,some x2=>some ⟨x0,x1,x2⟩
  |_,_,_=>none
 |_=>none
def jO:List AV->Option Thg
 |[c0,c1,c2,c3,c4,c5,c6]=>
  match asInt .i64 c0,asInt .i64 c1,cR c2,cR c3,dX .str c4,dX (.st .thing) c5,yU .func c6 with
  |some x0,some x1,some x2,some x3,some x4,some x5,some x6=>some ⟨x0,x1,x2,x3,x4,x5,x6⟩
  |_,_,_,_,_,_,_=>none
 |_=>none
def rX:List AV->Option Fnc
 |[c0,c1,c2,c3,c4,c5]=>
  match yU .scope c0,cR c1,dX .str c2,yU .term c3,cR c4,asInt .i64 c5 with
  |some x0,some x1,some x2,some x3,some x4,some x5=>some ⟨x0,x1,x2,x3,x4,x5⟩
  |_,_,_,_,_,_=>none
 |_=>none
def pq:List AV->Option Scp
 |[c0,c1,c2,c3,c4,c5,c6,c7,c8,c9]=>
  match cR c0,cR c1,jO [c2,c3,c4,c5,c6,c7,c8],yU .scope c9 with
  |some x0,some x1,some x2,some x9=>some ⟨x0,x1,x2,x9⟩
  |_,_,_,_=>none
 |_=>none
def xh:List AV->Option Plc
 |[c0,c1]=>
  match yU .scope c0,cR c1 with
  |some x0,some x1=>some ⟨x0,x1⟩
  |_,_=>none
 |_=>none
def xi:List AV->Option Exp
 |[c0,c1,c2,c3,c4,c5,c6,c7,c8]=>
  match cR c0,jO [c1,c2,c3,c4,c5,c6,c7],asInt .i64 c8 with
  |some x0,some x1,some x8=>some ⟨x0,x1,x8⟩
  |_,_,_=>none
 |_=>none
def r6:(τ:Ty)->List AV->Option (den τ)
 |.int k,[a]=>asInt k a
 |.bool,[a]=>rA a
 |.str,[a]=>cR a
 |.lst t,[a]=>dX t a
 |.pt n,[a]=>yU n a
 |.st .shape,cs=>iU cs
 |.st .item,cs=>rR cs
 |.st .change,cs=>nv cs
 |.st .token,cs=>pj cs
 |.st .fault,cs=>pk cs
 |.st .term,cs=>oc cs
 |.st .version,cs=>im cs
 |.st .bound,cs=>pn cs
 |.st .imp,cs=>xa cs
 |.st .decl,cs=>rS cs
 |.st .modu,cs=>rT cs
 |.st .bind,cs=>rU cs
 |.st .env,cs=>xb cs
 |.st .dep,cs=>xc cs
 |.st .val,cs=>rB cs
 |.st .cell,cs=>rV cs
 |.st .op,cs=>Cd cs
 |.st .chunk,cs=>po cs
 |.st .usg,cs=>xe cs
 |.st .nm,cs=>Ce cs
 |.st .stt,cs=>xf cs
 |.st .par,cs=>xg cs
 |.st .rstt,cs=>rW cs
 |.st .thing,cs=>jO cs
 |.st .func,cs=>rX cs
 |.st .scope,cs=>pq cs
 |.st .plc,cs=>xh cs
 |.st .exp,cs=>xi cs
 |_,_=>none
def KM:Ty->Bool
 |.st _=>true
 |_=>false
def inj:(τ:Ty)->den τ->AV
 |.int k,n=>.int k n
 |.bool,b=>.bool b
 |.str,s=>.str s
 |.lst t,l=>.lst t l none
 |.pt n,x=>.pt n x
 |.st n,x=>.st n x
def flat(τ:Ty)(xs:List (den τ)):List AV:=xs.flatMap (cells τ)
def ae:AV->List AV
 |.agg cs=>cs
 |.st n x=>cells (.st n) x
 |.row τ xs=>flat τ xs
 |a=>[a]
def arg:(τ:Ty)->AV->Option (den τ)
 |.st m,.st n x=>l8 n m x
 |.st m,.agg cs=>r6 (.st m) cs
 |.st _,_=>none
 |τ,a=>r6 τ [a]
def jP:(n:SN)->Nat->SD n->Option AV
 |.item,2,x=>some (.st .shape (Item.shape x))
 |.bound,1,x=>some (.st .version (Bnd.v x))
 |.imp,1,x=>some (.st .version (Impt.pin x))
 |.decl,2,x=>some (.st .shape (Dcl.shape x))
 |.decl,7,x=>some (.st .term (Dcl.term x))
 |.bind,2,x=>some (.st .shape (Bndg.shape x))
 |.cell,1,x=>some (.st .val (Cel.value x))
 |.scope,2,x=>some (.st .thing (Scp.what x))
 |.exp,1,x=>some (.st .thing (Exp.what x))
 |_,_,_=>none
def I2:(n:SN)->Nat->SD n->AV->Option AV
 |.item,2,x,.st .shape y=>some (.st .item ({(show Item from x)with shape:=y}:Item))
 |.bound,1,x,.st .version y=>some (.st .bound ({(show Bnd from x)with v:=y}:Bnd))
 |.imp,1,x,.st .version y=>some (.st .imp ({(show Impt from x)with pin:=y}:Impt))
 |.decl,2,x,.st .shape y=>some (.st .decl ({(show Dcl from x)with shape:=y}:Dcl))
 |.decl,7,x,.st .term y=>some (.st .decl ({(show Dcl from x)with term:=y}:Dcl))
 |.bind,2,x,.st .shape y=>some (.st .bind ({(show Bndg from x)with shape:=y}:Bndg))
 |.cell,1,x,.st .val y=>some (.st .cell ({(show Cel from x)with value:=y}:Cel))
 |.scope,2,x,.st .thing y=>some (.st .scope ⟨Scp.pkg x,Scp.name x,y,Scp.rest x⟩)
 |.exp,1,x,.st .thing y=>some (.st .exp ({(show Exp from x)with what:=y}:Exp))
 |_,_,_,_=>none
inductive SObj where
 |box (c:AV)
 |tail (τ:Ty) (n:Nat)
 |map (κ τ:Ty) (m:List (den κ×den τ))
 |bld (t u:Nat) (l:Str)
 |tailp (τ:Ty) (n:Nat) (x:den τ)
 |grow (τ:Ty) (s:Nat) (xs:List (den τ))
structure St where
 t:List (Nat×AV)
 b:List (Nat×SObj)
def aZ(l:List (Nat×AV))(i:Nat):AV:=List.rec .undef (fun p _ ih=>Bool.rec ih p.2 (Nat.beq p.1 i)) l
def gI(l:List (Nat×AV))(i:Nat)(v:AV):List (Nat×AV):=List.rec [(i,v)] (fun p r ih=>Bool.rec (p::ih) ((i,v)::r) (Nat.beq p.1 i)) l
def aj(l:List (Nat×SObj))(i:Nat):Option SObj:=List.rec none (fun p _ ih=>Bool.rec ih (some p.2) (Nat.beq p.1 i)) l
def r8(l:List (Nat×SObj))(i:Nat)(v:SObj):List (Nat×SObj):=List.rec [(i,v)] (fun p r ih=>Bool.rec (p::ih) ((i,v)::r) (Nat.beq p.1 i)) l
theorem oe{α:Type}{j i:Nat}(x y:α):(Bool.rec y x (Nat.beq j i):α)=if j ==i then x else y:=by
 by_cases h:j=i
 ·subst h;simp
 ·have h':Nat.beq j i=false:=by
   cases hb:Nat.beq j i with|false=>rfl|true=>exact absurd (On hb) h
  rw[h'];simp[h]
theorem eo(i:Nat):aZ [] i=.undef:=rfl
theorem dc(j:Nat)(v:AV)(r:List (Nat×AV))(i:Nat):aZ ((j,v)::r) i=if j ==i then v else aZ r i:=oe _ _
theorem yV(i:Nat)(v:AV):gI [] i v=[(i,v)]:=rfl
theorem vM(j:Nat)(u:AV)(r:List (Nat×AV))(i:Nat)(v:AV):gI ((j,u)::r) i v=if j ==i then(i,v)::r else(j,u)::gI r i v:=oe _ _
theorem b5(i:Nat):aj [] i=none:=rfl
theorem aH(j:Nat)(v:SObj)(r:List (Nat×SObj))(i:Nat):aj ((j,v)::r) i=if j ==i then some v else aj r i:=oe _ _
theorem og(i:Nat)(v:SObj):r8 [] i v=[(i,v)]:=rfl
theorem mj(j:Nat)(u:SObj)(r:List (Nat×SObj))(i:Nat)(v:SObj):r8 ((j,u)::r) i v=if j ==i then(i,v)::r else(j,u)::r8 r i v:=oe _ _
inductive TI where
 |int (k:IntKind)|bool|str|slice (e:Nat)|ptr (e:Nat)|strct (e:Bool) (fs:List (Nat×Nat))|map (k e:Nat)|iface|arr (e n:Nat)|other
structure TR where
 ti:TI
 size:Nat
 bytes:Nat
 zero:List AV
 ty:Option Ty
structure Ans where
 ob:Option Prop
 pan:Option (Bool×AV×List (Nat×SObj))
 val:AV
 upd:List (Nat×SObj)
def Ans.ret(v:AV):Ans:=⟨none,none,v,[]⟩
structure Cfg where
 tbl:List (Nat×TR)
 spec:Nat->List AV->List (Nat×SObj)->Option Ans
 keeps:Nat->Bool
 lends:Nat->List (Option Nat)
 pend:Nat->Bool:=fun _=>false
 rows:Nat->Bool:=fun _=>false
 same:Nat->Bool:=fun _=>false
def aB(l:List (Nat×TR))(t:Nat):Option TR:=List.rec none (fun p _ ih=>Bool.rec ih (some p.2) (Nat.beq p.1 t)) l
theorem vN(t:Nat):aB [] t=none:=rfl
theorem rY(j:Nat)(r:TR)(l:List (Nat×TR))(t:Nat):aB ((j,r)::l) t=if j ==t then some r else aB l t:=oe _ _
def TR.isAgg(r:TR):Bool:=
 match r.ti with
 |.strct _ _=>true
 |.arr _ _=>true
 |_=>false
structure DP where
 p:Prop
 b:Bool
 h:b=true->p
abbrev dp(p:Prop)[h:Decidable p]:DP:=⟨p,decide p,fun e=>Xo e⟩
abbrev EB(p:Prop):DP:=⟨p,false,fun h=>by cases h⟩
structure Eff where
 ob:Option DP
 val:AV
 upd:List (Nat×SObj)
def Eff.pure(v:AV):Eff:=⟨none,v,[]⟩
def Eff.asks(e:Eff):Prop:=match e.ob with|none=>True|some d=>d.p
def inR(k:IntKind)(n:Int):Prop:=k.min<=n/\n<=k.max
instance (k:IntKind)(n:Int):Decidable (inR k n):=inferInstanceAs (Decidable (k.min<=n/\n<=k.max))
def KN:IntKind->Nat
 |.i8=>127|.i16=>32767|.i32=>2147483647|.i64=>9223372036854775807
 |.u8=>255|.u16=>65535|.u32=>4294967295|.u64=>18446744073709551615
def EC:IntKind->Bool
 |.i8|.i16|.i32|.i64=>true
 |_=>false
def okC(k:IntKind):Int->Bool
 |.ofNat m=>Nat.ble m (KN k)
 |.negSucc m=>if EC k then Nat.ble m (KN k)else false
def ga{α:Type}:List α->Nat->Bool
 |[],0=>true
 |_::r,n+1=>ga r n
 |_,_=>false
def mU{α:Type}:List α->Nat->Bool
 |[],_=>true
 |_::r,n+1=>mU r n
 |_::_,0=>false
def nth{α:Type}:List α->Nat->Option α
 |[],_=>none
 |a::_,0=>some a
 |_::r,n+1=>nth r n
def qi:List AV->Nat->Option (List AV)
 |_,0=>some []
 |a::r,n+1=>(match qi r n with|some l=>some (a::l)|none=>none)
 |[],_+1=>none
def mV:List AV->Nat->Option (List AV)
 |l,0=>some l
 |_::r,n+1=>mV r n
 |[],_+1=>none
def cm:Value->AV
 |.int k n=>if okC k n then .int k n else .undef
 |.bool b=>.bool b
 |.string s=>if mU s.data.toList 100000 then .str s.data.toList else .undef
 |.slice none 0 0=>.nils
 |.pointer none=>.nilp
 |.nilIface=>.nilif
 |.map none=>.nilm
 |_=>.undef
def oh:Value->AV
 |.agg cs=>.agg (cs.toList.map cm)
 |v=>cm v
def opd(T:Nat->AV):Operand->AV
 |.tmp t=>T t
 |.const v=>oh v
 |.func f=>.fn f []
 |.global _=>.undef
def xj(op:BinOp)(k:IntKind)(a b:Int):Option Eff:=
 match op with
 |.add=>some ⟨some (dp (inR k (a+b))),.int k (a+b),[]⟩
 |.sub=>some ⟨some (dp (inR k (a-b))),.int k (a-b),[]⟩
 |.mul=>some ⟨some (dp (inR k (a *b))),.int k (a *b),[]⟩
 |.quo=>some ⟨some (dp (b≠0/\inR k (a.tdiv b))),.int k (a.tdiv b),[]⟩
 |.rem=>some ⟨some (dp (b≠0/\inR k (a.tmod b))),.int k (a.tmod b),[]⟩
 |.eql=>some (.pure (.bool (decide (a=b))))
 |.neq=>some (.pure (.bool (!decide (a=b))))
 |.lss=>some (.pure (.bool (decide (a<b))))
 |.leq=>some (.pure (.bool (decide (a<=b))))
 |.gtr=>some (.pure (.bool (decide (b<a))))
 |.geq=>some (.pure (.bool (decide (b<=a))))
 |.and=>some (.pure (.int k (k.wrap ((BitVec.ofInt k.bits a &&& BitVec.ofInt k.bits b).toNat:Int))))
 | .or=>some (.pure (.int k (k.wrap ((BitVec.ofInt k.bits a ||| BitVec.ofInt k.bits b).toNat:Int))))
 |.xor=>some (.pure (.int k (k.wrap ((BitVec.ofInt k.bits a ^^^ BitVec.ofInt k.bits b).toNat:Int))))
 |_=>none
def KO:BinOp->Bool
 |.shl|.shr=>true
 |_=>false
def Cf(op:BinOp)(k:IntKind)(a b:Int):Option Eff:=
 match op with
 |.shl=>some ⟨some (dp (0<=b)),.int k (k.wrap (a *2 ^ (min b.toNat k.bits))),[]⟩
 |.shr=>some ⟨some (dp (0<=b)),.int k (a.fdiv (2 ^ (min b.toNat k.bits))),[]⟩
 |_=>none
def xk(op:BinOp)(k:IntKind)(a b:Int):Option Eff:=
 match op with
 |.add=>some (.pure (.int k (k.wrap (a+b))))
 |.sub=>some (.pure (.int k (k.wrap (a-b))))
 |.mul=>some (.pure (.int k (k.wrap (a *b))))
 |_=>xj op k a b
def Cg(op:BinOp)(a b:Str):Option Eff:=
 match op with
 |.add=>some ⟨some (dp (a.length+b.length<=9223372036854775807)),.str (a++b),[]⟩
 |.eql=>some (.pure (.bool (decide (a=b))))
 |.neq=>some (.pure (.bool (!decide (a=b))))
 |.lss=>some (.pure (.bool (Op.bytesLess a b)))
 | .leq=>some (.pure (.bool (Op.bytesLess a b||decide (a=b))))
 | .gtr=>some (.pure (.bool (!(Op.bytesLess a b||decide (a=b)))))
 |.geq=>some (.pure (.bool (!Op.bytesLess a b)))
 |_=>none
def xl(op:BinOp)(a b:Bool):Option Eff:=
 match op with
 |.eql=>some (.pure (.bool (a ==b)))
 |.neq=>some (.pure (.bool (!(a ==b))))
 |_=>none
def sub(cs:List AV)(off n:Nat):Option (List AV):=
 match mV cs off with
 |some cs=>qi cs n
 |none=>none
def ep(r:TR)(cs:List AV):Option AV:=
 if r.isAgg then some (.agg cs)else(match cs with|[c]=>some c|_=>none)
def l9:List AV->List AV->Option (List AV)
 |cs,[]=>some cs
 |_::cs,v::vs=>(match l9 cs vs with|some l=>some (v::l)|none=>none)
 |[],_::_=>none
def splice:List AV->Nat->List AV->Option (List AV)
 |cs,0,vs=>l9 cs vs
 |c::cs,n+1,vs=>(match splice cs n vs with|some l=>some (c::l)|none=>none)
 |[],_+1,_=>none
def jQ:AV->Bool
 |.undef|.agg _|.tup _|.st _ _|.row _ _=>false
 |_=>true
def lf(r:TR)(c:AV)(off:Nat):Option AV:=
 match c,off,r.ty with
 |.st n x,0,some (.st m)=>
  if n=m then some (.st n x)else(match sub (ae (.st n x)) 0 r.size with|some cs=>ep r cs|none=>none)
 |.st n x,o+1,some (.st m)=>
  (match jP n (o+1) x with
  |some (.st m' y)=>if m'=m then some (.st m' y)else none
  |_=>(match sub (ae (.st n x)) (o+1) r.size with|some cs=>ep r cs|none=>none))
 |c,off,_=>(match sub (ae c) off r.size with|some cs=>ep r cs|none=>none)
def rZ(r:TR)(c:AV)(off:Nat)(v:AV):Option AV:=
 if(ae v).all jQ&&ga (ae v) r.size then
  (match off with
  |0=>if ga (ae c) r.size then some v else(match splice (ae c) 0 (ae v)with|some cs=>some (.agg cs)|none=>none)
  |o+1=>(match splice (ae c) (o+1) (ae v)with|some cs=>some (.agg cs)|none=>none))
 else none
def yW(fs:List (Nat×Nat))(size:Nat->Option Nat)(zero:List AV):List (Nat×AV)->Option (List AV)
 |[]=>some zero
 |(i,v)::r=>
  match nth fs i with
  |some (off,t)=>
   (match size t with
   |some n=>if(ae v).all jQ&&ga (ae v) n then(match splice zero off (ae v)with|some z=>yW fs size z r|none=>none)else none
   |none=>none)
  |none=>none
def s7(τ:Ty)(i:Nat):List (Nat×AV)->Option (List (den τ))
 |[]=>some []
 |(j,v)::r=>
  if j ==i then
   (match arg τ v,s7 τ (i+1) r with
    |some x,some l=>some (x::l)
    |_,_=>none)
  else none
def rC(r:TR)(f:Nat):Option (Nat×Nat):=
 match r.ti with
 |.strct _ fs=>nth fs f
 |_=>none
def bnd(T:Nat->AV):Option Operand->Option (Option Int)
 |none=>some none
 |some x=>match opd T x with
  |.int .i64 n=>some (some n)
  |.int .u64 n=>some (some n)
  |_=>none
def db(s:Str):List Int:=s.map fun b=>(b.toNat:Int)
def rD(C:Cfg)(t:Nat)(dst:Nat)(x y:AV)(look:Nat->Option SObj):Option Eff:=
 match aB C.tbl t with
 |some ⟨.slice e,_,_,_,_⟩=>
  (match aB C.tbl e with
  |some re=>
   (match x,y with
   |.lst τ xs (some k),.lst σ ys _=>
    (match fy σ τ ys,look k with
    |some [z],some (.tail τ' n)=>
     if τ'=τ/\re.ty=some τ then
      some ⟨some (dp (xs.length=n/\(xs.length+1) *re.bytes<=140737488355328)),.lstp τ xs k,[(k,.tailp τ xs.length z)]⟩
     else none
    |_,_=>none)
   |.nils,.lst σ [z] _=>
    (match look dst with
    |none=>if re.ty=some σ then some ⟨some (dp (1 *re.bytes<=140737488355328)),.lstp σ [] dst,[(dst,.tailp σ 0 z)]⟩else none
    |_=>none)
   |_,_=>none)
  |none=>none)
 |_=>none
def xm(C:Cfg)(t:Nat)(dst:Nat)(x y:AV)(look:Nat->Option SObj):Option Eff:=
 match aB C.tbl t with
 |some ⟨.slice e,_,_,_,_⟩=>
  (match aB C.tbl e with
  |some re=>
   (match x,y with
   |.nils,.nils=>some (.pure .nils)
   |.lst τ xs o,.nils=>some (.pure (.lst τ xs o))
   |.lst τ xs (some k),.lst σ ys _=>
    (match fy σ τ ys,look k with
    |some ys,some (.tail τ' n)=>
     if τ'=τ/\re.ty=some τ then
      some ⟨some (dp (xs.length=n/\(xs.length+ys.length) *re.bytes<=140737488355328)),.lst τ (xs++ys) (some k),[(k,.tail τ (xs++ys).length)]⟩
     else none
    |_,_=>none)
   |.nils,.lst σ ys _=>
    (match look dst with
    |none=>if re.ty=some σ then some ⟨some (dp (ys.length *re.bytes<=140737488355328)),.lst σ ys (some dst),[(dst,.tail σ ys.length)]⟩else none
    |_=>none)
   |_,_=>none)
  |none=>none)
 |_=>none
def nw(xs:List Int):Str:=xs.map fun n=>UInt8.ofNat n.toNat
def rE(C:Cfg)(t:Nat)(dst:Nat)(x y:AV)(look:Nat->Option SObj):Option Eff:=
 match aB C.tbl t with
 |some ⟨.slice e,_,_,_,_⟩=>
  (match aB C.tbl e with
  |some re=>
   (match x,y with
   |.glst s n k,.nils=>some (.pure (.glst s n k))
   |.glst s n k,.lst σ ys _=>
    (match look k with
    |some (.grow τ s' xs)=>
     (match fy σ τ ys with
     |some ys=>if re.ty=some τ then some ⟨some (dp ((s=s'/\n=xs.length)/\(xs.length+ys.length) *re.bytes<=140737488355328)),.glst (s'+ys.length) (xs++ys).length k,[(k,.grow τ (s'+ys.length) (xs++ys))]⟩else none
     |none=>none)
    |_=>none)
   |.glst s n k,.glst s2 n2 k2=>
    (match look k,look k2 with
    |some (.grow τ s' xs),some (.grow σ s2' ys)=>
     (match fy σ τ ys with
     |some ys=>if re.ty=some τ then some ⟨some (dp ((s=s'/\n=xs.length)/\(s2=s2'/\n2=ys.length)/\(xs.length+ys.length) *re.bytes<=140737488355328)),.glst (s'+ys.length) (xs++ys).length k,[(k,.grow τ (s'+ys.length) (xs++ys))]⟩else none
     |none=>none)
    |_,_=>none)
   |.nils,.lst σ ys _=>
    (match look dst with
    |none=>if re.ty=some σ then some ⟨some (dp (ys.length *re.bytes<=140737488355328)),.glst ys.length ys.length dst,[(dst,.grow σ ys.length ys)]⟩else none
    |_=>none)
   |_,_=>none)
  |none=>none)
 |_=>none
def I3(C:Cfg)(e:Nat)(t n i:Nat)(look:Nat->Option SObj):Option Eff:=
 match aB C.tbl e,look i with
 |some ⟨.int .u8,_,_,_,some (.int .u8)⟩,some (.grow (.int .u8) t' xs)=>some ⟨some (dp (t=t'/\n=xs.length)),.str (nw xs),[]⟩
 |_,_=>none
def Mu:AV->Bool
 |.glst _ _ _=>true
 |_=>false
def Mh(r:TR)(τ:Ty)(s':Nat)(xs:List (den τ))(s i w off:Nat):Option Eff:=
 if w=ab τ then
  (match lf r (inj τ (xs.getD i (dfl τ))) off with|some v=>some ⟨some (dp (s=s'/\i<xs.length)),v,[]⟩|none=>none)
 else none
def Ch(r:TR)(k:Nat)(τ:Ty)(s':Nat)(xs:List (den τ))(s i w off:Nat)(v:AV):Option Eff:=
 if w=ab τ then
  (match rZ r (inj τ (xs.getD i (dfl τ))) off v with
  |some c=>(match arg τ c with|some x=>some ⟨some (dp (s=s'/\i<xs.length)),.undef,[(k,.grow τ s' (xs.set i x))]⟩|none=>none)
  |none=>none)
 else none
def Ci(C:Cfg)(t:Nat)(s n k:Nat)(lo hi:Option (Option Int))(look:Nat->Option SObj):Option Eff:=
 match aB C.tbl t,lo,hi,look k with
 |some ⟨.slice e,_,_,_,_⟩,some none,some (some h),some (.grow τ s' xs)=>
  (match aB C.tbl e with
  |some _=>some ⟨some (dp ((s=s'/\n=xs.length)/\0<=h/\h<=xs.length)),.glst (s'+1) (xs.take h.toNat).length k,[(k,.grow τ (s'+1) (xs.take h.toNat))]⟩
  |none=>none)
 |some ⟨.slice e,_,_,_,_⟩,some (some l),some none,some (.grow τ s' xs)=>
  (match aB C.tbl e with
  |some re=>some ⟨some (dp ((s=s'/\n=xs.length)/\0<=l/\l<xs.length)),.gsuf k s l.toNat re.size (xs.length-l.toNat),[]⟩
  |none=>none)
 |_,_,_,_=>none
def Cj(C:Cfg)(t:Nat)(k s i w m:Nat)(look:Nat->Option SObj):Option Eff:=
 match aB C.tbl t,look k with
 |some ⟨.slice e,_,_,_,_⟩,some (.grow τ s' xs)=>
  (match aB C.tbl e with
  |some re=>
   (match r6 τ re.zero with
   |some z=>if re.ty=some τ/\w=ab τ then some ⟨some (dp (s=s'/\i+m=xs.length/\0<m)),.tup [],[(k,.grow τ s' (xs.take i++List.replicate m z))]⟩else none
   |none=>none)
  |none=>none)
 |_,_=>none
def km(xs:List Int):Str:=xs.map fun n=>UInt8.ofNat n.toNat
def rF(C:Cfg)(t t':Nat)(x:AV)(s:Str)(look:Nat->Option SObj):Option Eff:=
 match aB C.tbl t,aB C.tbl t' with
 |some ⟨.slice e,_,_,_,_⟩,some ⟨.str,_,_,_,_⟩=>
  (match aB C.tbl e with
  |some ⟨.int .u8,_,bytes,_,some (.int .u8)⟩=>
   (match x with
   |.lst (.int .u8) xs (some k)=>
    (match look k with
    |some (.tail (.int .u8) n)=>
     some ⟨some (dp (xs.length=n/\(xs.length+s.length) *bytes<=140737488355328)),.lst (.int .u8) (xs++db s) (some k),[(k,.tail (.int .u8) (xs++db s).length)]⟩
    |_=>none)
   |_=>none)
  |_=>none)
 |_,_=>none
def Mi(C:Cfg)(s d:Nat)(x:AV):Option Eff:=
 match aB C.tbl s,aB C.tbl d,x with
 |some ⟨.slice e,_,_,_,_⟩,some ⟨.str,_,_,_,_⟩,.lst (.int .u8) xs _=>
  (match aB C.tbl e with
  |some ⟨.int .u8,_,_,_,some (.int .u8)⟩=>some (.pure (.str (km xs)))
  |_=>none)
 |some ⟨.str,_,_,_,_⟩,some ⟨.slice e,_,_,_,_⟩,.str s=>
  (match aB C.tbl e with
  |some ⟨.int .u8,_,_,_,some (.int .u8)⟩=>some (.pure (.lst (.int .u8) (db s) none))
  |_=>none)
 |_,_,_=>none
def ids:AV->List Nat
 |.ptr i _=>[i]
 |.lst _ _ (some i)=>[i]
 |.agg cs=>idsL cs
 |.tup cs=>idsL cs
 |.fn _ cs=>idsL cs
 |.cptr c=>ids c
 |.arr i _ _=>[i]
 |.aptr i _ _ _=>[i]
 |.map i=>[i]
 |.bptr i=>[i]
 |.iface _ a=>ids a
 |.lstp _ _ k=>[k]
 |.tptr _ _ k=>[k]
 |.glst _ _ k=>[k]
 |.gptr k _ _ _ _=>[k]
 |.gsuf k _ _ _ _=>[k]
 |_=>[]
where idsL:List AV->List Nat
 |[]=>[]
 |a::r=>ids a++idsL r
def Ck:SObj->List Nat
 |.box c=>ids c
 |_=>[]
mutual
def mapV(fp:Nat->Nat->Option (Nat×Nat))(fi ft:Nat->Option Nat):AV->Option AV
 |.ptr i o=>(match fp i o with|some (j,p)=>some (.ptr j p)|none=>none)
 |.lst τ xs o=>(match o with|some k=>some (.lst τ xs (ft k))|none=>some (.lst τ xs none))
 |.cptr c=>(match mapV fp fi ft c with|some c=>some (.cptr c)|none=>none)
 |.agg cs=>(match mapVs fp fi ft cs with|some cs=>some (.agg cs)|none=>none)
 |.tup cs=>(match mapVs fp fi ft cs with|some cs=>some (.tup cs)|none=>none)
 |.fn f cs=>(match mapVs fp fi ft cs with|some cs=>some (.fn f cs)|none=>none)
 |.arr i n w=>(match fi i with|some j=>some (.arr j n w)|none=>none)
 |.aptr i n w o=>(match fi i with|some j=>some (.aptr j n w o)|none=>none)
 |.map i=>(match fi i with|some j=>some (.map j)|none=>none)
 |.bptr i=>(match fi i with|some j=>some (.bptr j)|none=>none)
 |.iface t a=>(match mapV fp fi ft a with|some a=>some (.iface t a)|none=>none)
 |.lstp _ _ _=>none
 |.tptr _ _ _=>none
 |.glst s n k=>(match fi k with|some j=>some (.glst s n j)|none=>none)
 |.gptr k s i w o=>(match fi k with|some j=>some (.gptr j s i w o)|none=>none)
 |.gsuf k s i w m=>(match fi k with|some j=>some (.gsuf j s i w m)|none=>none)
 |a=>some a
def mapVs(fp:Nat->Nat->Option (Nat×Nat))(fi ft:Nat->Option Nat):List AV->Option (List AV)
 |[]=>some []
 |a::r=>(match mapV fp fi ft a,mapVs fp fi ft r with|some a,some r=>some (a::r)|_,_=>none)
end
abbrev dO:=Nat×Option (Nat×Nat)
def jR(look:Nat->Option SObj):Nat->List Nat->List Nat->List Nat
 |0,_,acc=>acc
 |_+1,[],acc=>acc
 |n+1,i::r,acc=>
  if acc.contains i then jR look n r acc
  else jR look n (r++(match look i with|some o=>Ck o|none=>[])) (acc++[i])
def idx:List dO->Nat->Nat->Option (Nat×Option (Nat×Nat))
 |[],_,_=>none
 |(j,r)::l,i,k=>if j ==i then some (k,r)else idx l i (k+1)
def bd(i:Nat):Bool:=Nat.ble 900 i&&Nat.blt i 1000
def toP(L:List dO)(i o:Nat):Option (Nat×Nat):=
 match idx L i 900 with
 |some (k,none)=>some (k,o)
 |some (k,some (off,len))=>if Nat.ble off o&&Nat.blt o (off+len)then some (k,o-off)else none
 |none=>none
def toI(L:List dO)(i:Nat):Option Nat:=
 match idx L i 900 with
 |some (k,none)=>some k
 |_=>none
def nid(d k:Nat):Nat:=(k+1) *1000+d
def bw(L:List dO)(k:Nat):Option dO:=if Nat.ble 900 k then nth L (k-900)else none
def qj(L:List dO)(d k o:Nat):Option (Nat×Nat):=
 match bw L k with
 |some (i,none)=>some (i,o)
 |some (i,some (off,_))=>some (i,off+o)
 |none=>some (nid d k,o)
def iM(L:List dO)(d k:Nat):Option Nat:=
 match bw L k with
 |some (i,none)=>some i
 |some (_,some _)=>none
 |none=>some (nid d k)
def I4(c:AV)(off len:Nat):Option AV:=match sub (ae c) off len with|some cs=>some (.agg cs)|none=>none
def Fx(c:AV):Option (Nat×Nat)->Option AV
 |none=>some c
 |some (off,len)=>
  match c with
  |.st n x=>
   (match jP n off x with
   |some (.st m y)=>if ab (.st m)=len then some (.st m y)else I4 (.st n x) off len
   |_=>I4 (.st n x) off len)
  |c=>I4 c off len
def KP(c:AV)(off:Nat)(d:AV):Option AV:=match splice (ae c) off (ae d)with|some cs=>some (.agg cs)|none=>none
def KQ(c:AV)(r:Option (Nat×Nat))(d:AV):Option AV:=
 match r with
 |none=>some d
 |some (off,len)=>
  if ga (ae d) len then
   (match c with
   |.st n x=>(match I2 n off x d with|some a=>some a|none=>KP (.st n x) off d)
   |c=>KP c off d)
  else none
def fv(L:List dO)(r:Option (Nat×Nat)):SObj->Option SObj
 |.box c=>
  (match Fx c r with
  |some c=>(match mapV (toP L) (toI L) (toI L) c with|some c=>some (.box c)|none=>none)
  |none=>none)
 |.tailp _ _ _=>none
 |o=>(match r with|none=>some o|some _=>none)
def oq(look:Nat->Option SObj)(L:List dO):List dO->Nat->Option (List (Nat×SObj))
 |[],_=>some []
 |(i,r)::l,k=>
  match look i with
  |some o=>(match fv L r o,oq look L l (k+1)with|some o,some l=>some ((k,o)::l)|_,_=>none)
  |none=>none
def iq(L:List dO)(d:Nat)(r:Option (Nat×Nat))(old:Option SObj):SObj->Option SObj
 |.box c=>
  (match mapV (qj L d) (iM L d) (iM L d) c with
  |some c=>(match old with|some (.box b)=>(match KQ b r c with|some c=>some (.box c)|none=>none)|none=>some (.box c)|_=>none)
  |none=>none)
 |.tailp _ _ _=>none
 |o=>(match r with|none=>some o|some _=>none)
def kZ(look:Nat->Option SObj)(L:List dO)(d:Nat):List (Nat×SObj)->Option (List (Nat×SObj))
 |[]=>some []
 |(k,o)::u=>
  match bw L k with
  |some (i,r)=>
   (match look i with
   |some old=>(match iq L d r (some old) o,kZ look L d u with|some o,some u=>some ((i,o)::u)|_,_=>none)
   |none=>none)
  |none=>
   (match look (nid d k)with
   |none=>(match iq L d none none o,kZ look L d u with|some o,some u=>some ((nid d k,o)::u)|_,_=>none)
   |some _=>none)
def gd(L:List dO)(d:Nat)(u:List (Nat×SObj)):List Nat:=
 u.filterMap fun x=>match bw L x.1 with|some _=>none|none=>some (nid d x.1)
def iN(S u:List (Nat×SObj)):List (Nat×SObj):=u++S.filter fun x=>!(u.map (·.1)).contains x.1
def xn(i:Nat):List AV->List (Option Nat)->Option (Nat×Nat)
 |.ptr j o::r,n::ns=>if j ==i then(match n with|some n=>some (o,n)|none=>none)else xn i r ns
 |_::r,_::ns=>xn i r ns
 |_,_=>none
def ED(look:Nat->Option SObj)(i:Nat):Bool:=match look i with|some (.box _)=>true|_=>false
structure CallR where
 foot:List Nat
 eff:Eff
 pan:Option (Bool×AV×List (Nat×SObj))
def bp:List Nat->Bool
 |[]=>true
 |a::r=>!r.contains a&&bp r
def ou(look:Nat->Option SObj)(args:List AV)(ns:List (Option Nat))(i:Nat):Option SObj:=
 match xn i args ns with
 |some (o,n)=>
  (match Nat.ble 1000 n,look i with
  |true,some (.box c)=>(match Fx c (some (o,n-1000))with|some c=>some (.box c)|none=>none)
  |_,x=>x)
 |none=>look i
def Nx:Option (Nat×Nat)->Option (Nat×Nat)
 |some (o,n)=>some (o,match Nat.ble 1000 n with|true=>n-1000|false=>n)
 |none=>none
def gJ(C:Cfg)(f:Nat)(args:List AV)(look:Nat->Option SObj):List dO:=
 (jR (ou look args (C.lends f)) 64 (ids.idsL args) []).map fun i=>(i,if ED look i then Nx (xn i args (C.lends f))else none)
def EE(look:Nat->Option SObj)(L:List dO)(S:List (Nat×SObj))(d:Nat)(A:Ans):Option CallR:=
 match mapV (qj L d) (iM L d) (iM L d) A.val,kZ look L d (iN S A.upd),bp (A.upd.map (·.1))with
 |some v,some u,true=>
  (match A.pan with
  |none=>some ⟨gd L d A.upd,⟨A.ob.map EB,v,u⟩,none⟩
  |some (b,pv,pu)=>
   (match mapV (qj L d) (iM L d) (iM L d) pv,kZ look L d (iN S pu),bp (pu.map (·.1))with
   |some pv,some pu',true=>some ⟨gd L d A.upd++gd L d pu,⟨A.ob.map EB,v,u⟩,some (b,pv,pu')⟩
   |_,_,_=>none))
 |_,_,_=>none
def kn(keeps:Bool)(args:List AV):Option (List AV):=
 match keeps with
 |true=>some args
 |false=>mapVs (fun i o=>some (i,o)) some (fun _=>none) args
def I5(C:Cfg)(d:Nat)(f:Nat)(args:List AV)(look:Nat->Option SObj)(L:List dO):Option CallR:=
 match bp (L.map (·.1))&&Nat.blt d 1000&&Nat.ble L.length 100 with
 |true=>
  (match mapVs (toP L) (toI L) (toI L) args,oq look L L 900 with
  |some as,some S=>(match C.spec f as S with|some A=>EE look L S d A|none=>none)
  |_,_=>none)
 |false=>none
def s8(C:Cfg)(d:Nat)(f:Nat)(args:List AV)(look:Nat->Option SObj):Option CallR:=
 match kn (C.keeps f) args with
 |none=>none
 |some args=>I5 C d f args look (gJ C f args look)
def dA(T:Nat->AV)(c:Call):Option (Nat×List AV):=
 match c.callee with
 |.value (.func f)=>some (f,c.args.toList.map (opd T))
 |.value (.tmp t)=>(match T t with|.fn f caps=>some (f,c.args.toList.map (opd T)++caps)|_=>none)
 |_=>none
def gK(C:Cfg)(o:Oper)(T:Nat->AV)(look:Nat->Option SObj):Option CallR:=
 match o.op,o.dst with
 |.call c,some d=>(match dA T c with|some (f,args)=>s8 C d f args look|none=>none)
 |_,_=>none
def eqD:(τ:Ty)->den τ->den τ->Bool
 |.int _,x,y=>decide ((x:Int)=y)
 |.bool,x,y=>decide ((x:Bool)=y)
 |.str,x,y=>decide ((x:Str)=y)
 |.st .token,x,y=>decide ((x:Tokn).kind=(y:Tokn).kind)&&decide ((x:Tokn).text=(y:Tokn).text)&&decide ((x:Tokn).pos=(y:Tokn).pos)
 |_,_,_=>false
theorem Mv{τ:Ty}{x y:den τ}(h:eqD τ x y=true):x=y:=by
 unfold eqD at h;split at h
 ·exact Xo h
 ·exact Xo h
 ·exact Xo h
 ·rename_i x y;simp only[NZ,O1]at h;obtain⟨⟨h1,h2⟩,h3⟩:=h;cases x;cases y;simp only at h1 h2 h3;rw[h1,h2,h3]
 ·cases h
def KR(τ:Ty):List (den τ)->List (den τ)->Bool
 |[],[]=>true
 |x::r,y::s=>eqD τ x y&&KR τ r s
 |_,_=>false
theorem EF{τ:Ty}:∀{l m:List (den τ)},KR τ l m=true->l=m
 |[],[],_=>rfl
 |x::r,y::s,h=>by simp only[KR,NZ]at h;rw[Mv h.1,EF h.2]
 |[],_::_,h=>by cases h
 |_::_,[],h=>by cases h
def eqX(τ σ:Ty)(xs:List (den τ))(ys:List (den σ)):Bool:=match fy τ σ xs with|some zs=>KR σ zs ys|none=>false
theorem Fy{τ σ:Ty}{xs:List (den τ)}{ys:List (den σ)}(h:fy τ σ xs=some ys):∃e:τ=σ,e ▸ xs=ys:=by
 unfold fy at h;split at h
 ·rename_i e;exact⟨e,OG h⟩
 ·cases h
theorem I6{τ σ:Ty}{xs:List (den τ)}{ys:List (den σ)}(h:eqX τ σ xs ys=true):∃e:τ=σ,e ▸ xs=ys:=by
 unfold eqX at h;split at h
 ·rename_i zs hz;obtain⟨e,he⟩:=Fy hz;exact⟨e,he.trans (EF h)⟩
 ·cases h
mutual
def eqV:AV->AV->Bool
 |.undef,.undef=>true
 |.int k n,.int j m=>decide (k=j)&&decide (n=m)
 |.bool a,.bool b=>decide (a=b)
 |.str s,.str t=>decide (s=t)
 |.lst τ xs o,.lst σ ys p=>decide (o=p)&&eqX τ σ xs ys
 |.nils,.nils=>true
 |.nilp,.nilp=>true
 |.nilif,.nilif=>true
 |.nilm,.nilm=>true
 |.ptr i o,.ptr j p=>Nat.beq i j&&Nat.beq o p
 |.row τ xs,.row σ ys=>eqX τ σ xs ys
 |.map i,.map j=>Nat.beq i j
 |.bptr i,.bptr j=>Nat.beq i j
 |.cptr c,.cptr d=>eqV c d
 |.agg cs,.agg ds=>eqVs cs ds
 |.fn f cs,.fn g ds=>Nat.beq f g&&eqVs cs ds
 |_,_=>false
def eqVs:List AV->List AV->Bool
 |[],[]=>true
 |a::r,b::s=>eqV a b&&eqVs r s
 |_,_=>false
end
mutual
theorem eqV_ok:∀(a b:AV),eqV a b=true->a=b:=by
 intro a b h;unfold eqV at h;split at h
 ·rfl
 ·simp only[NZ,O1]at h;rw[h.1,h.2]
 ·rw[Xo h]
 ·rw[Xo h]
 ·simp only[NZ,O1]at h;obtain⟨e,he⟩:=I6 h.2;subst e;rw[h.1,<-he]
 ·rfl
 ·rfl
 ·rfl
 ·rfl
 ·simp only[NZ]at h;rw[On h.1,On h.2]
 ·obtain⟨e,he⟩:=I6 h;subst e;rw[<-he]
 ·rw[On h]
 ·rw[On h]
 ·rename_i c d;rw[eqV_ok c d h]
 ·rename_i cs ds;rw[eqVs_ok cs ds h]
 ·rename_i f cs g ds;simp only[NZ]at h;rw[On h.1,eqVs_ok cs ds h.2]
 ·cases h
theorem eqVs_ok:∀(l m:List AV),eqVs l m=true->l=m
 |[],[],_=>rfl
 |a::r,b::s,h=>by simp only[eqVs,NZ]at h;rw[eqV_ok a b h.1,eqVs_ok r s h.2]
 |[],_::_,h=>by cases h
 |_::_,[],h=>by cases h
end
def eqO:SObj->SObj->Bool
 |.box c,.box d=>eqV c d
 |.tail τ n,.tail σ m=>decide (τ=σ)&&Nat.beq n m
 |.bld t u l,.bld t' u' l'=>Nat.beq t t'&&Nat.beq u u'&&decide (l=l')
 |_,_=>false
theorem I7{a b:SObj}(h:eqO a b=true):a=b:=by
 unfold eqO at h;split at h
 ·rw[eqV_ok _ _ h]
 ·simp only[NZ,O1]at h;rw[h.1,On h.2]
 ·simp only[NZ,O1]at h;rw[On h.1.1,On h.1.2,h.2]
 ·cases h
def gX(look:Nat->Option SObj):List (Nat×SObj)->Prop
 |[]=>True
 |(i,o)::r=>(match look i with|some o'=>o'=o/\gX look r|none=>gX look r)
def ir(look:Nat->Option SObj):List (Nat×SObj)->Bool
 |[]=>true
 |(i,o)::r=>(match look i with|some o'=>eqO o' o&&ir look r|none=>ir look r)
theorem lg{look:Nat->Option SObj}:∀{l:List (Nat×SObj)},ir look l=true->gX look l
 |[],_=>trivial
 |(i,o)::r,h=>by
  unfold ir at h;unfold gX;split at h
  ·rw[NZ]at h;exact⟨I7 h.1,lg h.2⟩
  ·exact lg h
def okO:Option DP->Bool
 |none=>true
 |some d=>d.b
theorem I8{e:Eff}(h:okO e.ob=true):e.asks:=by
 unfold Eff.asks;split
 ·trivial
 ·rename_i d hd;rw[hd]at h;exact d.h h
def yX(look:Nat->Option SObj):List (Nat×SObj)->List (Nat×SObj)
 |[]=>[]
 |(i,o)::r=>(match look i with|some _=>yX look r|none=>(i,o)::yX look r)
def gf(b:Bool)(look:Nat->Option SObj)(e:Eff):Eff:=
 match b with
 |false=>e
 |true=>⟨some ⟨e.asks/\gX look e.upd,okO e.ob&&ir look e.upd,fun h=>by
   rw[NZ]at h;exact⟨I8 h.1,lg h.2⟩⟩,e.val,yX look e.upd⟩
def I9(b:Bool)(u:List (Nat×SObj)):List Nat:=match b with|true=>u.map (·.1)|false=>[]
def lh(C:Cfg)(o:Oper):Bool:=match o.dst with|some d=>C.same d|none=>false
def aF(C:Cfg)(o:Oper)(T:Nat->AV)(look:Nat->Option SObj):List Nat:=
 match o.op with
 |.alloc _|.box ..|.buildSlice ..|.makeSlice ..|.makeMap ..=>o.dst.toList
 |.load _ a|.store _ a _=>(match opd T a with|.ptr id _=>[id]|.aptr id _ _ _=>[id]|.tptr _ _ k=>[k]|.gptr k _ _ _ _=>[k]|_=>[])
 |.slice _ x _ _ _=>(match opd T x with|.glst _ _ k=>[k]|_=>[])
 |.convert _ _ x=>(match opd T x with|.glst _ _ k=>[k]|_=>[])
 |.lookup _ x _ _=>(match opd T x with|.map id=>[id]|_=>[])
 |.mapUpdate _ x _ _|.insert _ x _ _=>(match opd T x with|.map id=>[id]|_=>[])
 |.mapEntry _ x _|.entryStore _ x _ _=>(match opd T x with|.map id=>[id]|_=>[])
 |.call {callee:=.builtin .append,args,..}=>
  (match args.toList with
  |[x,y]=>(match opd T x with|.lst _ _ (some k)=>[k]|.nils=>o.dst.toList|.glst _ _ k=>[k]|_=>[])++(match opd T y with|.glst _ _ k=>[k]|_=>[])
  |_=>[])
 |.call {callee:=.builtin .len,args,..}=>
  (match args.toList with
  |[x]=>(match opd T x with|.map id=>[id]|_=>[])
  |_=>[])
 |.call {callee:=.builtin .clear,args,..}=>
  (match args.toList with
  |[x]=>(match opd T x with|.gsuf k _ _ _ _=>[k]|_=>[])
  |_=>[])
 |.call c=>
  (match dA T c with
  |some (f,args)=>
   (match kn (C.keeps f) args with
   |some args=>(gJ C f args look).map (·.1)++(match gK C o T look with|some r=>r.foot++I9 (lh C o) r.eff.upd|none=>[])
   |none=>[])
  |none=>[])
 |_=>[]
def cn(C:Cfg)(o:Oper)(T:Nat->AV)(look:Nat->Option SObj):Option (Bool×AV×List (Nat×SObj)):=
 match o.op with
 |.panic x=>some (true,opd T x,[])
 |.call _=>(match gK C o T look with|some r=>r.pan|none=>none)
 |_=>none
def cu{K V:Type}[DecidableEq K]:List (K×V)->K->Option V
 |[],_=>none
 |(a,v)::r,k=>if k=a then some v else cu r k
def bP{K V:Type}[DecidableEq K]:List (K×V)->K->V->List (K×V)
 |[],k,v=>[(k,v)]
 |(a,u)::r,k,v=>if k=a then(k,v)::r else(a,u)::bP r k v
def gg(κ τ:Ty)(m:List (den κ×den τ))(k:AV):Option (Option (den τ)):=
 match κ,m,k with
 |.str,m,.str k=>some (cu (K:=Str) m k)
 |.int j,m,.int j' k=>if j=j' then some (cu (K:=Int) m k)else none
 |.st .nm,m,k=>(match arg (.st .nm) k with|some k=>some (cu (K:=Nam) m k)|none=>none)
 |_,_,_=>none
def gL(κ τ:Ty)(m:List (den κ×den τ))(k:AV)(v:den τ):Option (List (den κ×den τ)):=
 match κ,m,k with
 |.str,m,.str k=>some (bP (K:=Str) m k v)
 |.int j,m,.int j' k=>if j=j' then some (bP (K:=Int) m k v)else none
 |.st .nm,m,k=>(match arg (.st .nm) k with|some k=>some (bP (K:=Nam) m k v)|none=>none)
 |_,_,_=>none
def mix{K V:Type}[DecidableEq K]:List (K×V)->K->Nat
 |[],_=>0
 |(a,_)::r,k=>if k=a then 0 else mix r k+1
def vO(κ τ:Ty)(m:List (den κ×den τ))(k:AV):Option Nat:=
 match κ,m,k with
 |.str,m,.str k=>some (mix (K:=Str) m k)
 |.int _,m,.int _ k=>some (mix (K:=Int) m k)
 |.st .nm,m,k=>(match arg (.st .nm) k with|some k=>some (mix (K:=Nam) m k)|none=>none)
 |_,_,_=>none
def iG{K V:Type}(m:List (K×V))(i:Nat)(v:V):List (K×V):=m.modify i fun x=>(x.1,v)
def Ny(r:TR)(n:SN):Bool:=
 match r.ty with
 |some (.st m)=>decide (n=m)
 |_=>false
def jS:AV->Option (List AV)
 |.agg cs=>some cs
 |.st n x=>some (cells (.st n) x)
 |_=>none
def s9:TI->AV->AV->Option Bool
 |.int _,.int j a,.int k b=>if j=k then some (decide (a=b))else none
 |.bool,.bool a,.bool b=>some (a ==b)
 |.str,.str a,.str b=>some (decide (a=b))
 |_,_,_=>none
def Cl(C:Cfg):List (Nat×Nat)->List AV->List AV->Option Bool
 |[],_,_=>some true
 |(off,t)::r,cs,ds=>
  match aB C.tbl t,nth cs off,nth ds off with
  |some rt,some c,some d=>(match s9 rt.ti c d,Cl C r cs ds with|some b,some b'=>some (b&&b')|_,_=>none)
  |_,_,_=>none
def Fz(C:Cfg):List (Nat×Nat)->List AV->List AV->Option Bool
 |[],_,_=>some true
 |(off,t)::r,cs,ds=>
  match aB C.tbl t with
  |some ⟨.strct true gs,n,_,_,_⟩=>
   (match sub cs off n,sub ds off n with
   |some c,some d=>(match Cl C gs c d,Fz C r cs ds with|some b,some b'=>some (b&&b')|_,_=>none)
   |_,_=>none)
  |some rt=>
   (match nth cs off,nth ds off with
   |some c,some d=>(match s9 rt.ti c d,Fz C r cs ds with|some b,some b'=>some (b&&b')|_,_=>none)
   |_,_=>none)
  |none=>none
def Cm(C:Cfg)(op:BinOp)(t:Nat)(cs ds:List AV):Option Eff:=
 match aB C.tbl t with
 |some ⟨.strct true fs,_,_,_,_⟩=>
  (match Fz C fs cs ds with
  |some b=>(match op with|.eql=>some (.pure (.bool b))|.neq=>some (.pure (.bool (!b)))|_=>none)
  |none=>none)
 |_=>none
def EG(r:TR)(τ:Ty)(xs:List (den τ))(i w off:Nat):Option Eff:=
 if w=ab τ then
  (match lf r (inj τ (xs.getD i (dfl τ))) off with|some v=>some ⟨some (dp (i<xs.length)),v,[]⟩|none=>none)
 else none
def sa(r:TR)(id:Nat)(τ:Ty)(xs:List (den τ))(i w off:Nat)(v:AV):Option Eff:=
 if w=ab τ then
  (match rZ r (inj τ (xs.getD i (dfl τ))) off v with
  |some c=>(match arg τ c with|some x=>some ⟨some (dp (i<xs.length)),.undef,[(id,.box (.row τ (xs.set i x)))]⟩|none=>none)
  |none=>none)
 else none
def xo(C:Cfg):List (Nat×Nat)->Bool
 |[(0,a),(1,b)]=>(match aB C.tbl a,aB C.tbl b with|some ⟨.str,_,_,_,_⟩,some ⟨.str,_,_,_,_⟩=>true|_,_=>false)
 |_=>false
def jT(C:Cfg):TI->Ty->Bool
 |.str,.str=>true
 |.int j,.int k=>decide (j=k)
 |.strct true fs,.st .nm=>xo C fs
 |_,_=>false
def js(C:Cfg)(t:Nat)(x k:AV)(ok:Bool)(look:Nat->Option SObj):Option Eff:=
 match aB C.tbl t,x with
 |some ⟨.map kt e,_,_,_,_⟩,.map id=>
  (match aB C.tbl kt,aB C.tbl e,look id with
  |some rk,some re,some (.map κ τ m)=>
   (match r6 τ re.zero,gg κ τ m k with
   |some z,some g=>
    if jT C rk.ti κ&&decide (re.ty=some τ)then some (.pure (match ok with|true=>.tup [inj τ (g.getD z),.bool g.isSome]|false=>inj τ (g.getD z)))else none
   |_,_=>none)
  |_,_,_=>none)
 |some ⟨.map kt e,_,_,_,_⟩,.nilm=>
  (match aB C.tbl kt,aB C.tbl e with
  |some rk,some re=>
   (match rk.ty,re.ty with
   |some κ,some τ=>
    (match r6 τ re.zero,gg κ τ [] k with
    |some z,some none=>if jT C rk.ti κ then some (.pure (match ok with|true=>.tup [inj τ z,.bool false]|false=>inj τ z))else none
    |_,_=>none)
   |_,_=>none)
  |_,_=>none)
 |_,_=>none
def ko(C:Cfg)(t:Nat)(x k v:AV)(look:Nat->Option SObj):Option Eff:=
 match aB C.tbl t,x with
 |some ⟨.map kt _,_,_,_,_⟩,.map id=>
  (match aB C.tbl kt,look id with
  |some rk,some (.map κ τ m)=>
   (match arg τ v with
   |some v=>(match gL κ τ m k v with|some m=>if jT C rk.ti κ then some ⟨none,.undef,[(id,.map κ τ m)]⟩else none|none=>none)
   |none=>none)
  |_,_=>none)
 |_,_=>none
def sb(C:Cfg)(t:Nat)(x k:AV)(look:Nat->Option SObj):Option Eff:=
 match aB C.tbl t,x with
 |some ⟨.map kt e,_,_,_,_⟩,.map id=>
  (match aB C.tbl kt,aB C.tbl e,look id with
  |some rk,some re,some (.map κ τ m)=>
   (match r6 τ re.zero,gg κ τ m k with
   |some z,some g=>
    (match gL κ τ m k (g.getD z),vO κ τ m k with
    |some m',some ix=>if jT C rk.ti κ&&decide (re.ty=some τ)then some ⟨some (dp (m.length<=9223372036854775807)),.tup [inj τ (g.getD z),.int .i64 (ix:Int)],[(id,.map κ τ m')]⟩else none
    |_,_=>none)
   |_,_=>none)
  |_,_,_=>none)
 |_,_=>none
def lq(x s v:AV)(look:Nat->Option SObj):Option Eff:=
 match x,s with
 |.map id,.int _ n=>
  (match look id with
  |some (.map κ τ m)=>(match arg τ v with|some u=>some ⟨some (dp (0<=n/\n.toNat<m.length)),.undef,[(id,.map κ τ (iG m n.toNat u))]⟩|none=>none)
  |_=>none)
 |_,_=>none
def KS:List AV->Bool
 |[]=>true
 |.int .i64 (.ofNat 0)::r=>KS r
 |_=>false
def EH(r:TR):Option AV:=
 match r.ti with
 |.arr _ n=>if KS r.zero&&ga r.zero n then some (.row (.int .i64) (List.replicate n (0:Int)))else none
 |_=>if r.isAgg then some (.agg r.zero)else(match r.zero with|[c]=>some c|_=>none)
def Mj(tbl:List (Nat×TR))(e:Nat)(r:TR):Option Nat:=
 match r.ti,r.zero with
 |.strct _ [(_,p),(_,s)],[.nilp,.nils]=>
  (match aB tbl p,aB tbl s with
  |some rp,some rs=>(match rp.ti,rs.ti with|.ptr e',.slice u=>if e'=e then some u else none|_,_=>none)
  |_,_=>none)
 |_,_=>none
def Cn(C:Cfg)(t:Nat)(x:AV)(lo hi:Option (Option Int)):Option Eff:=
  match aB C.tbl t,x,lo,hi with
  |some ⟨.str,_,_,_,_⟩,.str s,some l,some h=>
   some ⟨some (dp (0<=l.getD 0/\l.getD 0<=h.getD s.length/\h.getD s.length<=s.length)),.str ((s.take (h.getD s.length).toNat).drop (l.getD 0).toNat),[]⟩
  |some ⟨.slice e,_,_,_,_⟩,.lst τ xs _,some l,some h=>
   (match aB C.tbl e with
   |some re=>
    if re.ty=some τ then
     some ⟨some (dp (0<=l.getD 0/\l.getD 0<=h.getD xs.length/\h.getD xs.length<=xs.length)),.lst τ ((xs.take (h.getD xs.length).toNat).drop (l.getD 0).toNat) none,[]⟩
    else none
   |none=>none)
  |_,_,_,_=>none
def Mw(C:Cfg)(t:Nat)(x:AV)(look:Nat->Option SObj):Option Eff:=
   match aB C.tbl t,x with
   |some ⟨.str,_,_,_,_⟩,.str s=>some (.pure (.int .i64 (s.length:Int)))
   |some ⟨.slice _,_,_,_,_⟩,.lst _ xs _=>some (.pure (.int .i64 (xs.length:Int)))
   |some ⟨.slice _,_,_,_,_⟩,.nils=>some (.pure (.int .i64 0))
   |some ⟨.slice _,_,_,_,_⟩,.arr _ n _=>some (.pure (.int .i64 n))
   |some ⟨.slice _,_,_,_,_⟩,.glst _ n _=>some (.pure (.int .i64 n))
   |some ⟨.map _ _,_,_,_,_⟩,.map id=>(match look id with|some (.map _ _ m)=>some ⟨some (dp (m.length<=9223372036854775807)),.int .i64 (m.length:Int),[]⟩|_=>none)
   |_,_=>none
def boxF(r:TR)(d:Nat)(a:AV)(fast:Bool):Option Eff:=
 match fast with
 |false=>if(ae a).all jQ&&ga (ae a) r.size then some ⟨none,.ptr d 0,[(d,.box a)]⟩else none
 |true=>
  match r.ty with
  |some (.st n)=>(match arg (.st n) a with|some v=>if(ae a).all jQ then some ⟨none,.pt n (some v),[(d,.box (.agg []))]⟩else none|none=>none)
  |_=>none
def Ia(C:Cfg)(o:Oper):Bool:=match o.dst with|some d=>C.rows d|none=>false
def au(C:Cfg)(o:Oper)(T:Nat->AV)(look:Nat->Option SObj):Option Eff:=
 match o.op with
 |.move x|.assign x=>some (.pure (opd T x))
 |.pick c a b=>(match opd T c with|.bool c=>some (.pure (if c=true then opd T a else opd T b))|_=>none)
 |.alloc e=>
  (match o.dst,aB C.tbl e with
  |some d,some r=>
   (match Mj C.tbl e r with
   |some u=>(match look d with|none=>some ⟨none,.bptr d,[(d,.bld e u [])]⟩|_=>none)
   |none=>
   (match look d,EH r with
   |none,some c=>some ⟨none,.ptr d 0,[(d,.box c)]⟩
   |_,_=>none))
  |_,_=>none)
 |.box e x=>
  (match o.dst,aB C.tbl e with
  |some d,some r=>
   (match look d with
   |none=>boxF r d (opd T x) (C.rows d)
   |_=>none)
  |_,_=>none)
 |.build t ps=>
  (match aB C.tbl t with
  |some ⟨.strct _ fs,_,_,zero,_⟩=>
   (match yW fs (fun t=>(aB C.tbl t).map (·.size)) zero (ps.toList.map fun(i,x)=>(i,opd T x))with
   |some cs=>some (.pure (.agg cs))
   |none=>none)
  |_=>none)
 |.buildSlice t len ps=>
  (match o.dst,aB C.tbl t with
  |some d,some ⟨.slice e,_,_,_,_⟩=>
   (match aB C.tbl e with
   |some ⟨_,size,_,_,some τ⟩=>
    (match s7 τ 0 (ps.toList.map fun(i,x)=>(i,opd T x)),look d with
    |some l,none=>if(ga l len&&Nat.ble (len *size) 1000000)&&(ps.toList.map fun(i,x)=>(i,opd T x)).all (fun p=>(ae p.2).all jQ)then(match C.rows d with|false=>(match C.rows (d+5000)with|false=>some ⟨none,.lst τ l (some d),[(d,.tail τ l.length)]⟩|true=>some ⟨none,.glst l.length l.length d,[(d,.grow τ l.length l)]⟩)|true=>some ⟨none,.arr d l.length size,[(d,.box (.row τ l))]⟩)else none
    |_,_=>none)
   |_=>none)
  |_,_=>none)
 |.load t a=>
  (match aB C.tbl t with
  |some r=>
   (match opd T a with
   |.ptr id off=>
    (match look id with
    |some (.box c)=>(lf r c off).map .pure
    |_=>none)
   |.cptr c=>(lf r c 0).map .pure
   |.aptr id i w off=>
    (match look id with
    |some (.box (.row τ xs))=>EG r τ xs i w off
    |_=>none)
   |.gptr k s i w off=>
    (match look k with
    |some (.grow τ s' xs)=>Mh r τ s' xs s i w off
    |_=>none)
   |_=>none)
  |none=>none)
 |.store t a x=>
  (match aB C.tbl t with
  |some r=>
   (match r.size with
   |0=>(match opd T a,ae (opd T x)with|.ptr _ _,[]=>some (.pure .undef)|_,_=>none)
   |_+1=>
   (match opd T a with
   |.ptr id off=>
    (match look id with
    |some (.box c)=>
     (match rZ r c off (opd T x)with
     |some c=>some ⟨none,.undef,[(id,.box c)]⟩
     |none=>none)
    |_=>none)
   |.aptr id i w off=>
    (match look id with
    |some (.box (.row τ xs))=>sa r id τ xs i w off (opd T x)
    |_=>none)
   |.gptr k s i w off=>
    (match look k with
    |some (.grow τ s' xs)=>Ch r k τ s' xs s i w off (opd T x)
    |_=>none)
   |.tptr τ n k=>
    (match look k with
    |some (.tailp τ' m _)=>
     if τ'=τ then
      (match arg τ (opd T x)with
      |some v=>if(ae (opd T x)).all jQ&&(ga (ae (opd T x)) r.size&&Nat.beq r.size (ab τ))then some ⟨some (dp (n=m)),.undef,[(k,.tailp τ m v)]⟩else none
      |none=>none)
     else none
    |_=>none)
   |_=>none))
  |none=>none)
 |.nilCheck x=>
  (match opd T x with
  |.ptr id off=>some (.pure (.ptr id off))
  |.cptr c=>some (.pure (.cptr c))
  |.aptr id i w off=>some (.pure (.aptr id i w off))
  |.gptr k s i w off=>some (.pure (.gptr k s i w off))
  |.fn f cs=>some (.pure (.fn f cs))
  |.pt n x=>some ⟨some (dp (x.isSome=true)),.cptr (.st n (x.getD (dfl (.st n)))),[]⟩
  |_=>none)
 |.binOp op t x y _=>
  (match opd T x,opd T y with
  |.int k a,.int k' b=>(match KO op with|true=>Cf op k a b|false=>if k=k' then(match Ia C o with|true=>xk op k a b|false=>xj op k a b)else none)
  |.str a,.str b=>Cg op a b
  |.bool a,.bool b=>(match aB C.tbl t with|some ⟨.bool,_,_,_,_⟩=>xl op a b|_=>none)
  |.pt _ a,.nilp=>
   (match aB C.tbl t with
   |some ⟨.ptr _,_,_,_,_⟩=>(match op with|.eql=>some (.pure (.bool a.isNone))|.neq=>some (.pure (.bool a.isSome))|_=>none)
   |_=>none)
  |.iface _ _,.nilif=>
   (match aB C.tbl t with
   |some ⟨.iface,_,_,_,_⟩=>(match op with|.eql=>some (.pure (.bool false))|.neq=>some (.pure (.bool true))|_=>none)
   |_=>none)
  |.nilif,.nilif=>
   (match aB C.tbl t,y with
   |some ⟨.iface,_,_,_,_⟩,.const _=>(match op with|.eql=>some (.pure (.bool true))|.neq=>some (.pure (.bool false))|_=>none)
   |_,_=>none)
  |.nilm,.nilm=>
   (match aB C.tbl t,y with
   |some ⟨.map _ _,_,_,_,_⟩,.const _=>(match op with|.eql=>some (.pure (.bool true))|.neq=>some (.pure (.bool false))|_=>none)
   |_,_=>none)
  |.map _,.nilm=>
   (match aB C.tbl t,y with
   |some ⟨.map _ _,_,_,_,_⟩,.const _=>(match op with|.eql=>some (.pure (.bool false))|.neq=>some (.pure (.bool true))|_=>none)
   |_,_=>none)
  |.nils,.nils=>
   (match aB C.tbl t,y with
   |some ⟨.slice _,_,_,_,_⟩,.const _=>(match op with|.eql=>some (.pure (.bool true))|.neq=>some (.pure (.bool false))|_=>none)
   |_,_=>none)
  |.lst _ xs _,.nils=>
   (match aB C.tbl t,y with
   |some ⟨.slice _,_,_,_,_⟩,.const _=>(match op with|.eql=>some ⟨some (dp (xs.length≠0)),.bool false,[]⟩|.neq=>some ⟨some (dp (xs.length≠0)),.bool true,[]⟩|_=>none)
   |_,_=>none)
  |x,y=>(match jS x,jS y with|some cs,some ds=>Cm C op t cs ds|_,_=>none))
 |.unOp op _ x=>
  (match op,opd T x with
  |.not,.bool b=>some (.pure (.bool (!b)))
  |.neg,.int k n=>some ⟨some (dp (inR k (0-n))),.int k (0-n),[]⟩
  |_,_=>none)
 |.convert s d x=>
  (match aB C.tbl s,aB C.tbl d,opd T x with
  |some _,some ⟨.int k,_,_,_,_⟩,.int _ n=>(match Ia C o with|true=>some (.pure (.int k (k.wrap n)))|false=>some ⟨some (dp (inR k n)),.int k n,[]⟩)
  |some ⟨.slice e,_,_,_,_⟩,some ⟨.str,_,_,_,_⟩,.glst t n i=>I3 C e t n i look
  |some _,some ⟨.str,_,_,_,_⟩,.str s=>some (.pure (.str s))
  |_,_,x=>Mi C s d x)
 |.fieldAddr s x f=>
  (match aB C.tbl s with
  |some r=>
   (match rC r f,opd T x with
   |some (off,_),.ptr id o=>some (.pure (.ptr id (o+off)))
   |some (off,_),.aptr id i w o=>some (.pure (.aptr id i w (o+off)))
   |some (off,_),.gptr k s i w o=>some (.pure (.gptr k s i w (o+off)))
   |some (off,t),.cptr c=>
    (match off,c,aB C.tbl t with
    |off,.st n x,some ⟨_,_,_,_,some (.st m)⟩=>
     (match jP n off x with
     |some (.st m' y)=>if m'=m then some (.pure (.cptr (.st m' y)))else none
     |_=>(match mV (ae (.st n x)) off with|some (c::r)=>some (.pure (.cptr (.agg (c::r))))|_=>none))
    |off,c,_=>(match mV (ae c) off with|some (c::r)=>some (.pure (.cptr (.agg (c::r))))|_=>none))
   |_,_=>none)
  |none=>none)
 |.field s x f=>
  (match aB C.tbl s with
  |some r=>
   (match rC r f with
   |some (off,t)=>
    (match aB C.tbl t,opd T x with
    |some rt,.agg cs=>(lf rt (.agg cs) off).map .pure
    |some rt,.st n x=>if Ny r n then(lf rt (.st n x) off).map .pure else none
    |_,_=>none)
   |_=>none)
  |none=>none)
 |.indexAddr t x i=>
  (match aB C.tbl t,opd T x,opd T i with
  |some ⟨.slice e,_,_,_,_⟩,.lst τ xs _,.int _ n=>
   (match aB C.tbl e with
   |some re=>if re.ty=some τ then some ⟨some (dp (0<=n/\n<xs.length)),.cptr (inj τ (xs.getD n.toNat (dfl τ))),[]⟩else none
   |none=>none)
  |some ⟨.slice e,_,_,_,_⟩,.arr id m w,.int _ n=>
   (match aB C.tbl e with
   |some re=>if re.size=w then some ⟨some (dp (0<=n/\n<m)),.aptr id n.toNat w 0,[]⟩else none
   |none=>none)
  |some ⟨.slice e,_,_,_,_⟩,.glst s m k,.int _ n=>
   (match aB C.tbl e with
   |some re=>some ⟨some (dp (0<=n/\n<m)),.gptr k s n.toNat re.size 0,[]⟩
   |none=>none)
  |some ⟨.slice e,_,_,_,_⟩,.lstp τ xs k,.int _ n=>
   (match aB C.tbl e with
   |some re=>if re.ty=some τ then some ⟨some (dp (n=(xs.length:Int))),.tptr τ xs.length k,[]⟩else none
   |none=>none)
  |some ⟨.arr e m,_,_,_,_⟩,.ptr id 0,.int _ n=>
   (match aB C.tbl e with
   |some re=>some ⟨some (dp (0<=n/\n<m)),.aptr id n.toNat re.size 0,[]⟩
   |none=>none)
  |_,_,_=>none)
 |.index t x i=>
  (match aB C.tbl t,opd T x,opd T i with
  |some ⟨.str,_,_,_,_⟩,.str s,.int _ n=>some ⟨some (dp (0<=n/\n<s.length)),.int .u8 ((s.getD n.toNat 0).toNat:Int),[]⟩
  |_,_,_=>none)
 |.slice t x lo hi none=>(match opd T x with|.glst s n k=>Ci C t s n k (bnd T lo) (bnd T hi) look|x=>Cn C t x (bnd T lo) (bnd T hi))
 |.extract x i=>(match opd T x with|.tup vs=>(nth vs i).map .pure|_=>none)
 |.call {callee:=.builtin .len,args,argTypes}=>
  (match args.toList,argTypes.toList with
  |[x],[t]=>Mw C t (opd T x) look
  |_,_=>none)
 |.call {callee:=.builtin .append,args,argTypes}=>
  (match args.toList,argTypes.toList,o.dst with
  | [x,y],[t,t'],some d=>if t ==t' then(match C.pend d,C.rows d||Mu (opd T x)with | true,_=>rD C t d (opd T x) (opd T y) look | false,true=>rE C t d (opd T x) (opd T y) look | false,false=>xm C t d (opd T x) (opd T y) look)else(match opd T y with | .str s=>rF C t t' (opd T x) s look | _=>none)
  |_,_,_=>none)
 |.call {callee:=.builtin .max,args,..}=>
  (match args.toList with
  |[x,y]=>(match opd T x,opd T y with|.int k a,.int k' b=>if k=k' then some (.pure (.int k (max a b)))else none|_,_=>none)
  |_=>none)
 |.call {callee:=.builtin .min,args,..}=>
  (match args.toList with
  |[x,y]=>(match opd T x,opd T y with|.int k a,.int k' b=>if k=k' then some (.pure (.int k (min a b)))else none|_,_=>none)
  |_=>none)
 |.call {callee:=.builtin .clear,args,argTypes}=>
  (match args.toList,argTypes.toList with
  |[x],[t]=>(match opd T x with|.gsuf k s i w m=>Cj C t k s i w m look|_=>none)
  |_,_=>none)
 |.call {callee:=.builtin _,..}=>none
 |.call _=>(match gK C o T look with|some r=>some (gf (lh C o) look r.eff)|none=>none)
 |.makeFunc (.func f) first caps=>if first.isEmpty then some (.pure (.fn f (caps.toList.map (opd T))))else none
 |.makeInterface t x=>(match aB C.tbl t with|some r=>(match r.ti with|.iface=>none|_=>some (.pure (.iface t (opd T x))))|none=>none)
 |.typeAssert x _ t true=>
  (match opd T x,aB C.tbl t with
  |.iface t' a,some r=>(match r.ti with|.iface=>none|_=>if t'=t then some (.pure (.tup [a,.bool true]))else none)
  |_,_=>none)
 |.panic x=>(match opd T x with|.iface _ _=>some (.pure .undef)|_=>none)
 |.makeMap t h=>
  (match o.dst,aB C.tbl t with
  |some d,some ⟨.map k e,_,_,_,_⟩=>
   (match aB C.tbl k,aB C.tbl e,look d with
   |some ⟨_,_,_,_,some κ⟩,some ⟨_,_,_,_,some τ⟩,none=>
    (match h.map (opd T)with
    |none|some (.int _ _)=>some ⟨none,.map d,[(d,.map κ τ [])]⟩
    |_=>none)
   |_,_,_=>none)
  |_,_=>none)
 |.lookup t x k ok=>js C t (opd T x) (opd T k) ok look
 |.mapUpdate t x k v=>ko C t (opd T x) (opd T k) (opd T v) look
 |.insert t x k v=>ko C t (opd T x) (opd T k) (opd T v) look
 |.mapEntry t x k=>sb C t (opd T x) (opd T k) look
 |.entryStore _ x s v=>lq (opd T x) (opd T s) (opd T v) look
 |.makeSlice t n c=>
  (match o.dst,aB C.tbl t,opd T n,opd T c with
  |some d,some ⟨.slice e,_,_,_,_⟩,.int .i64 a,.int .i64 b=>
   (match aB C.tbl e,look d with
   |some ⟨_,size,bytes,zero,some τ⟩,none=>
    (match r6 τ zero with
    |some z=>
     (match n with
     |.const (.int _ (.ofNat 0))=>some ⟨some (dp (0<=b/\b *bytes<=140737488355328)),.lst τ [] (some d),[(d,.tail τ 0)]⟩
     |_=>(match C.rows (d+5000)with
      |false=>some ⟨some (dp (0<=a/\a<=b/\b *bytes<=140737488355328)),.arr d a.toNat size,[(d,.box (.row τ (List.replicate a.toNat z)))]⟩
      |true=>some ⟨some (dp (0<=a/\a<=b/\b *bytes<=140737488355328)),.glst a.toNat (List.replicate a.toNat z).length d,[(d,.grow τ a.toNat (List.replicate a.toNat z))]⟩))
    |none=>none)
   |_,_=>none)
  |_,_,_,_=>none)
 |_=>none
def sd(t:List (Nat×AV))(d:Option Nat)(v:AV):List (Nat×AV):=
 match d with
 |some d=>gI t d v
 |none=>t
def cr:List (Nat×SObj)->List (Nat×SObj)->List (Nat×SObj)
 |b,[]=>b
 |b,(i,o)::r=>cr (r8 b i o) r
def St.put(s:St)(d:Option Nat)(e:Eff):St:=⟨sd s.t d e.val,cr s.b e.upd⟩
def gh(ops:List Oper)(i:Nat):Bool:=ops.any fun o=>match o.guard with|some (j,_)=>j ==i|none=>false
def sp(b:Bool)(p q:Prop):Prop:=if b=true then p else q
def sf:Option DP->Prop->Prop
 |none,q=>q
 |some d,q=>d.p/\q
abbrev bN:=List Nat×List Nat
def sg(o:Oper):List Nat:=o.op.operands.toList.filterMap fun|.tmp t=>some t|_=>none
def dP(ops:List Oper)(o:Oper):List Nat:=
 sg o++(match o.guard with|some (g,_)=>((nth ops g).bind (·.dst)).toList|none=>[])
def sh(a b:List Nat):Bool:=a.all fun x=>!b.contains x
def gi(ops:List Oper)(x y:Oper):Bool:=
 (match x.dst with|some d=>!(dP ops y).contains d&&!(y.dst ==some d)|none=>true)&&
 (match y.dst with|some d=>!(dP ops x).contains d|none=>true)
def dQ(f g:bN):Bool:=sh f.2 (g.1++g.2)&&sh g.2 f.1
def pr(x y:Oper):Bool:=
 match x.op,y.op with
 |.lookup t (.tmp a) (.tmp b) false,.mapEntry t' (.tmp a') (.tmp b')=>Nat.beq t t'&&(Nat.beq a a'&&Nat.beq b b')
 |_,_=>false
def sk(acc:List Nat)(o:Oper):Nat:=(o.after.toList.filter (Region.binds .any)).foldl (init:=0) fun m e=>m ||| 2 ^ e.on ||| acc.getD e.on 0
def fw(ops:List Oper):List Nat:=ops.foldl (init:=[]) fun acc o=>acc++[sk acc o]
def dB(ops:List Oper)(fs:List bN):Bool:=
 ((List.range ops.length).all fun j=>(List.range j).all fun i=>
  ((fw ops).getD j 0).testBit i||
  (match nth ops i,nth ops j,nth fs i,nth fs j with
   | some x,some y,some f,some g=>gi ops x y&&(dQ f g||pr x y)
   |_,_,_,_=>false))&&
 (ops.zipIdx.all fun(o,j)=>o.after.all fun e=>!Region.binds .any e||Nat.blt e.on j)
def bQ:Nat->List bN->List (Nat×bN)
 |_,[]=>[]
 |i,f::r=>(i,f)::bQ (i+1) r
def jH:List (Nat×bN)->Nat->bN
 |[],_=>([],[])
 |(i,f)::r,k=>if i ==k then f else jH r k
def Mx(ops:List Oper)(j:Nat)(fl:List (Nat×bN)):Bool:=
 (fl.all fun(a,f)=>a ==j||((fl.all fun(b,g)=>!Nat.blt a b||((fw ops).getD b 0).testBit a||
  (match nth ops a,nth ops b with
   |some x,some y=>gi ops x y&&dQ f g
   |_,_=>false))&&!((fw ops).getD a 0).testBit j))&&
 (fl.all fun(b,g)=>!Nat.blt j b||((fw ops).getD b 0).testBit j||(match nth ops j,nth ops b with | some x,some y=>gi ops x y&&dQ (jH fl j) g | _,_=>false))&&
 (ops.zipIdx.all fun(o,k)=>o.after.all fun e=>!Region.binds .any e||Nat.blt e.on k)&&
 ((List.range ops.length).all fun k=>k ==j||(fl.any fun x=>x.1 ==k)||((fw ops).getD k 0).testBit j)
def ml(C:Cfg)(ops:List Oper)(j:Nat):List Oper->Nat->St->List (Nat×bN)->(List (Nat×bN)->Prop)->Prop
 |[],_,_,fl,k=>k fl
 |o::r,i,s,fl,k=>
  match((fw ops).getD i 0).testBit j,o.guard,gh ops i with
  |true,_,_=>ml C ops j r (i+1) s fl k
  |false,none,false=>
   (match au C o (aZ s.t) (aj s.b),cn C o (aZ s.t) (aj s.b)with
   |some e,none=>sf e.ob (ml C ops j r (i+1) (s.put o.dst e) (fl++[(i,(aF C o (aZ s.t) (aj s.b),e.upd.map (·.1)))]) k)
   |_,_=>False)
  |_,_,_=>False
def pw(ops:List Oper)(j:Nat)(fl:List (Nat×bN)):List Nat:=(fl.filter fun x=>!(x.1 ==j)&&!((fw ops).getD j 0).testBit x.1).flatMap fun x=>x.2.2
def yY(A:List Nat)(b:List (Nat×SObj)):St:=⟨[],b.filter fun x=>!A.contains x.1⟩
def bV(A:List Nat)(s:St):Bool:=(s.t.all fun x=>sh (ids x.2) A)&&(s.b.all fun x=>sh (Ck x.2) A)
def xp(C:Cfg)(ops:List Oper)(draw:Bool)(kp:AV->St->Prop)(r:List Oper)(i:Nat)(s:St)(fs:List bN)(f:bN)(pv:AV)(u:List (Nat×SObj)):Prop:=
 match draw with
 |false=>kp pv ⟨s.t,cr s.b u⟩
 |true=>ml C ops i r (i+1) s (bQ 0 (f::fs).reverse) fun fl=>
  match Mx ops i fl&&bV (pw ops i fl) (yY (pw ops i fl) (cr s.b u))&&sh (ids pv) (pw ops i fl)&&(pw ops i fl).all fun x=>!bd x with
  |true=>kp pv (yY (pw ops i fl) (cr s.b u))
  |false=>False
def bR(C:Cfg)(ops:List Oper)(draw:Bool)(kp:AV->St->Prop):List Oper->Nat->St->List bN->(St->List bN->Prop)->Prop
 |[],_,s,fs,k=>k s fs.reverse
 |o::r,i,s,fs,k=>
  let on:Unit->Prop:=fun _=>
   match au C o (aZ s.t) (aj s.b)with
   |none=>False
   |some e=>
    sf e.ob
    (match cn C o (aZ s.t) (aj s.b)with
    |none=>
     (match gh ops i,e.val with
     |true,.bool b=>
      sp b (bR C ops draw kp r (i+1) (s.put o.dst {e with val:=.bool true}) ((aF C o (aZ s.t) (aj s.b),e.upd.map (·.1))::fs) k)
       (bR C ops draw kp r (i+1) (s.put o.dst {e with val:=.bool false}) ((aF C o (aZ s.t) (aj s.b),e.upd.map (·.1))::fs) k)
     |true,_=>False
     |false,_=>bR C ops draw kp r (i+1) (s.put o.dst e) ((aF C o (aZ s.t) (aj s.b),e.upd.map (·.1))::fs) k)
    |some (b,pv,u)=>
     (match gh ops i with
     |true=>False
     |false=>sp b (xp C ops draw kp r i s fs (aF C o (aZ s.t) (aj s.b),e.upd.map (·.1)) pv u) (bR C ops draw kp r (i+1) (s.put o.dst e) ((aF C o (aZ s.t) (aj s.b),e.upd.map (·.1))::fs) k)))
  let off:Unit->Prop:=fun _=>bR C ops draw kp r (i+1) ⟨sd s.t o.dst (.tup []),s.b⟩ (([],[])::fs) k
  match o.guard with
  |none=>on ()
  |some (j,want)=>
   match(nth ops j).bind (·.dst)with
   |none=>False
   |some d=>
    match aZ s.t d with
    |.bool true=>if want then on ()else off ()
    |.bool false=>if want then off ()else on ()
    |.tup []=>off ()
    |_=>False
def sl(ops:List Oper):List Nat:=
 ops.filterMap fun o=>match o.op with
  |.alloc _|.box ..|.buildSlice ..|.makeSlice ..|.makeMap ..|.call {callee:=.builtin .append,..}=>o.dst
  |_=>none
def xq(ops:List Oper):List Nat:=
 ops.filterMap fun o=>match o.op with
  |.call {callee:=.value _,..}=>o.dst
  |_=>none
def EI(ds cs:List Nat)(i:Nat):Bool:=ds.contains i||(Nat.ble 1000 i&&cs.contains (i%1000))
def enter(ops:List Oper)(s:St):Option St:=
 let A:=(s.b.map (·.1)).filter fun i=>EI (sl ops) (xq ops) i&&!bd i
 if A.isEmpty then some s else
  let s':St:=⟨s.t.filter fun x=>!A.contains x.1,s.b.filter fun x=>!A.contains x.1⟩
  if bV A s' then some s' else none
mutual
def pubV(id:Nat)(c:AV):AV->AV
 |.ptr i o=>(match o with|0=>if i=id then .cptr c else .ptr i 0|o+1=>.ptr i (o+1))
 |.arr i n w=>if i=id then(match c with|.row τ xs=>if w=ab τ then .lst τ (xs.take n) none else .arr i n w|_=>.arr i n w)else .arr i n w
 |.cptr d=>.cptr (pubV id c d)
 |.agg cs=>.agg (pubVs id c cs)
 |.tup cs=>.tup (pubVs id c cs)
 |.fn f cs=>.fn f (pubVs id c cs)
 |.iface t a=>.iface t (pubV id c a)
 |a=>a
def pubVs(id:Nat)(c:AV):List AV->List AV
 |[]=>[]
 |a::r=>pubV id c a::pubVs id c r
end
def Ib(id:Nat)(c:AV):SObj->SObj
 |.box d=>.box (pubV id c d)
 |o=>o
def bW(id:Nat)(s:St):Option St:=
 match aj s.b id with
 |some (.box c)=>
  let s':St:=⟨s.t.map fun x=>(x.1,pubV id c x.2),(s.b.filter fun x=>!(x.1 ==id)).map fun x=>(x.1,Ib id c x.2)⟩
  if bV [id] s'&&sh (ids c) [id]&&!bd id then some s' else none
 |_=>none
def px:List Nat->St->Option St
 |[],s=>some s
 |i::r,s=>(match bW i s with|some s=>px r s|none=>none)
mutual
def frzV(k:Nat)(τ:Ty)(xs:List (den τ)):AV->AV
 |.glst s n j=>(match Nat.beq j k with|true=>.lst τ xs none|false=>.glst s n j)
 |.cptr d=>.cptr (frzV k τ xs d)
 |.agg cs=>.agg (frzVs k τ xs cs)
 |.tup cs=>.tup (frzVs k τ xs cs)
 |.fn f cs=>.fn f (frzVs k τ xs cs)
 |.iface t a=>.iface t (frzV k τ xs a)
 |a=>a
def frzVs(k:Nat)(τ:Ty)(xs:List (den τ)):List AV->List AV
 |[]=>[]
 |a::r=>frzV k τ xs a::frzVs k τ xs r
end
mutual
def stpV(k:Nat):AV->List (Nat×Nat)
 |.glst s n j=>(match Nat.beq j k with|true=>[(s,n)]|false=>[])
 |.cptr d=>stpV k d
 |.agg cs=>stpVs k cs
 |.tup cs=>stpVs k cs
 |.fn _ cs=>stpVs k cs
 |.iface _ a=>stpV k a
 |_=>[]
def stpVs(k:Nat):List AV->List (Nat×Nat)
 |[]=>[]
 |a::r=>stpV k a++stpVs k r
end
def Ic(k:Nat)(τ:Ty)(xs:List (den τ)):SObj->SObj
 |.box c=>.box (frzV k τ xs c)
 |o=>o
def stpO(k:Nat):SObj->List (Nat×Nat)
 |.box c=>stpV k c
 |_=>[]
def dZ(s n:Nat):List (Nat×Nat)->Prop
 |[]=>True
 |(a,b)::r=>(a=s/\b=n)/\dZ s n r
def xr(k:Nat)(τ:Ty)(xs:List (den τ))(ts:List Nat):List (Nat×AV)->List (Nat×AV)
 |[]=>[]
 |(i,a)::r=>(i,match sh (ids a) [k]with|true=>a|false=>(match ts.contains i with|true=>frzV k τ xs a|false=>.undef))::xr k τ xs ts r
def Ie(k:Nat)(ts:List Nat):List (Nat×AV)->List (Nat×Nat)
 |[]=>[]
 |(i,a)::r=>(match ts.contains i with|true=>stpV k a|false=>[])++Ie k ts r
def My(k:Nat)(ts:List Nat)(s:St):Option (Prop×St):=
 match aj s.b k with
 |some (.grow τ s' xs)=>
  let r:=s.b.filter fun x=>!(x.1 ==k)
  let s2:St:=⟨xr k τ xs ts s.t,r.map fun x=>(x.1,Ic k τ xs x.2)⟩
  if bV [k] s2&&!bd k then some (dZ s' xs.length (Ie k ts s.t++r.flatMap fun x=>stpO k x.2),s2)else none
 |_=>none
mutual
def lensV(k:Nat):AV->List Nat
 |.lstp _ xs j=>(match Nat.beq j k with|true=>[xs.length]|false=>[])
 |.cptr d=>lensV k d
 |.agg cs=>lensVs k cs
 |.tup cs=>lensVs k cs
 |.fn _ cs=>lensVs k cs
 |.iface _ a=>lensV k a
 |_=>[]
def lensVs(k:Nat):List AV->List Nat
 |[]=>[]
 |a::r=>lensV k a++lensVs k r
end
mutual
def finV(k:Nat)(τ:Ty)(x:den τ):AV->AV
 |.lstp σ xs j=>(match Nat.beq j k with|true=>(match fy τ σ [x]with|some l=>.lst σ (xs++l) (some k)|none=>.undef)|false=>.lstp σ xs j)
 |.tptr σ n j=>(match Nat.beq j k with|true=>.undef|false=>.tptr σ n j)
 |.cptr d=>.cptr (finV k τ x d)
 |.agg cs=>.agg (finVs k τ x cs)
 |.tup cs=>.tup (finVs k τ x cs)
 |.fn f cs=>.fn f (finVs k τ x cs)
 |.iface t a=>.iface t (finV k τ x a)
 |a=>a
def finVs(k:Nat)(τ:Ty)(x:den τ):List AV->List AV
 |[]=>[]
 |a::r=>finV k τ x a::finVs k τ x r
end
def Mk(k:Nat):SObj->List Nat
 |.box c=>lensV k c
 |_=>[]
def FA(k:Nat)(τ:Ty)(x:den τ):SObj->SObj
 |.box c=>.box (finV k τ x c)
 |o=>o
def xt(n:Nat):List Nat->Prop->Prop
 |[],q=>q
 |m::r,q=>m=n/\xt n r q
def Co(k:Nat)(s:St)(Q:St->Prop):Prop:=
 match aj s.b k with
 |some (.tailp τ n x)=>
  xt n (s.t.flatMap (fun y=>lensV k y.2)++s.b.flatMap (fun y=>Mk k y.2))
   (Q ⟨s.t.map fun y=>(y.1,finV k τ x y.2),(r8 s.b k (.tail τ (n+1))).map fun y=>(y.1,FA k τ x y.2)⟩)
 |_=>Q s
def Cp:List Nat->St->(St->Prop)->Prop
 |[],s,Q=>Q s
 |k::r,s,Q=>Co k s fun s=>Cp r s Q
def rG:List (Nat×SObj)->List Nat
 |[]=>[]
 |(k,.tailp _ _ _)::r=>k::rG r
 |_::r=>rG r
def Mz(s:St)(Q:St->Prop):Prop:=Cp (rG s.b) s Q
def LeF(G:List Nat):AV->AV->Prop
 |_,.undef=>True
 |.int k n,.int k' n'=>if k=k' then n=n' else False
 |.bool b,.bool b'=>b=b'
 |.str s,.str s'=>s=s'
 |.lst τ xs o,.lst σ ys p=>(match fy τ σ xs with|some xs=>xs=ys|none=>False)/\(if p=none∨p=o then True else False)
 |.nils,.lst _ ys p=>(match p with|none=>True|some k=>if G.contains k=true then True else False)/\ys=[]
 |.nils,.nils=>True
 |.nilp,.nilp=>True
 |.ptr i o,.ptr j p=>if i=j/\o=p then True else False
 |.st n x,.st m y=>(match l8 n m x with|some x=>x=y|none=>False)
 |.row τ xs,.row σ ys=>(match fy τ σ xs with|some xs=>xs=ys|none=>False)
 |.arr i n w,.arr j m v=>if i=j/\w=v then n=m else False
 |.aptr i n w o,.aptr j m v p=>if i=j/\w=v/\o=p then n=m else False
 |.glst s n i,.glst t m j=>if i=j then s=t/\n=m else False
 |.nils,.glst t m j=>(if G.contains j=true then True else False)/\t=0/\m=0
 |.gptr i s n w o,.gptr j t m v p=>if i=j/\w=v/\o=p then s=t/\n=m else False
 |.map i,.map j=>if i=j then True else False
 |.bptr i,.bptr j=>if i=j then True else False
 |.pt n x,.pt m y=>(match qh n m x with|some x=>x=y|none=>False)
 |.nilp,.pt _ y=>y=none
 |.nilif,.nilif=>True
 |.nilm,.nilm=>True
 |_,_=>False
def yZ(G:List Nat):List AV->List AV->Prop
 |[],[]=>True
 |a::r,b::s=>LeF G a b/\yZ G r s
 |_,_=>False
def vP:AV->AV->Prop
 |.agg _,.undef=>False
 |.st _ _,.undef=>False
 |.row _ _,.undef=>False
 |_,_=>True
mutual
def LeV(G:List Nat):AV->AV->Prop
 |.cptr c,.cptr d=>vP c d/\LeV G c d
 |.cptr (.st n x),.pt m y=>(match l8 n m x with|some x=>some x=y|none=>False)
 |.iface t a,.iface u b=>(if t=u then True else False)/\LeV G a b
 |.agg cs,.st m y=>yZ G cs (cells (.st m) y)
 |.st n x,.agg ds=>yZ G (cells (.st n) x) ds
 |.agg cs,.agg ds=>LeL G cs ds
 |.tup cs,.tup ds=>LeL G cs ds
 |.fn f cs,.fn g ds=>(if f=g then True else False)/\LeL G cs ds
 |a,b=>LeF G a b
def LeL(G:List Nat):List AV->List AV->Prop
 |[],[]=>True
 |a::r,b::s=>LeV G a b/\LeL G r s
 |_,_=>False
end
def EJ(κ τ κ' τ':Ty)(m:List (den κ×den τ)):Option (List (den κ'×den τ')):=if h:κ=κ'/\τ=τ' then some (h.1 ▸ h.2 ▸ m)else none
def LeT(G:List Nat)(s:St):List (Nat×AV)->Prop
 |[]=>True
 |(i,a)::r=>LeV G (aZ s.t i) a/\LeT G s r
def LeB(G:List Nat)(s:St):List (Nat×SObj)->Prop
 |[]=>True
 |(i,.box d)::r=>(match aj s.b i with|some (.box c)=>vP c d/\LeV G c d|_=>False)/\LeB G s r
 |(i,.tail τ n)::r=>(match aj s.b i with|some (.tail σ m)=>(if σ=τ then m=n else False)|none=>n=0|_=>False)/\LeB G s r
 |(i,.map κ τ m)::r=>(match aj s.b i with|some (.map κ' τ' m')=>(match EJ κ' τ' κ τ m' with|some m'=>m'=m|none=>False)|_=>False)/\LeB G s r
 |(i,.bld t u l)::r=>(match aj s.b i with|some (.bld t' u' l')=>(if t'=t/\u'=u then l'=l else False)|_=>False)/\LeB G s r
 |(_,.tailp _ _ _)::_=>False
 |(i,.grow τ s' xs)::r=>(match aj s.b i with|some (.grow σ t ys)=>(match fy σ τ ys with|some ys=>t=s'/\ys=xs|none=>False)|none=>s'=0/\xs=[]|_=>False)/\LeB G s r
def aM{α:Type}(l:List (Nat×α)):List Nat:=l.map (·.1)
def eQ(s s':St):List Nat:=(aM s'.b).filter fun i=>(aj s.b i).isNone
def LeS(s s':St):Prop:=
 (if bV ((aM s.b).filter fun i=>!(aM s'.b).contains i) s'&&((aM s.b).filter fun i=>!(aM s'.b).contains i).all (fun i=>!bd i)then True else False)/\LeT (eQ s s') s s'.t/\LeB (eQ s s') s s'.b
def chk(b:Bool)(k:Prop):Prop:=match b with|true=>k|false=>False
def cF(G:List Nat)(a b:AV)(k:Prop):Prop:=
 match a,b with
 |_,.undef=>k
 |.int j n,.int j' n'=>chk (decide (j=j')) (n=n'/\k)
 |.bool b,.bool b'=>b=b'/\k
 |.str s,.str s'=>s=s'/\k
 |.lst τ xs o,.lst σ ys p=>(match fy τ σ xs with|some xs=>chk (decide (p=none∨p=o)) (xs=ys/\k)|none=>False)
 |.nils,.lst _ ys p=>(match p with|none=>ys=[]/\k|some i=>chk (G.contains i) (ys=[]/\k))
 |.nils,.nils=>k
 |.nilp,.nilp=>k
 |.ptr i o,.ptr j p=>chk (decide (i=j/\o=p)) k
 |.st n x,.st m y=>(match l8 n m x with|some x=>x=y/\k|none=>False)
 |.row τ xs,.row σ ys=>(match fy τ σ xs with|some xs=>xs=ys/\k|none=>False)
 |.arr i n w,.arr j m v=>chk (decide (i=j/\w=v)) (n=m/\k)
 |.aptr i n w o,.aptr j m v p=>chk (decide (i=j/\w=v/\o=p)) (n=m/\k)
 |.glst s n i,.glst t m j=>chk (decide (i=j)) (s=t/\n=m/\k)
 |.nils,.glst t m j=>chk (G.contains j) (t=0/\m=0/\k)
 |.gptr i s n w o,.gptr j t m v p=>chk (decide (i=j/\w=v/\o=p)) (s=t/\n=m/\k)
 |.map i,.map j=>chk (decide (i=j)) k
 |.bptr i,.bptr j=>chk (decide (i=j)) k
 |.pt n x,.pt m y=>(match qh n m x with|some x=>x=y/\k|none=>False)
 |.nilp,.pt _ y=>y=none/\k
 |.nilif,.nilif=>k
 |.nilm,.nilm=>k
 |_,_=>False
def cFs(G:List Nat):List AV->List AV->Prop->Prop
 |[],[],k=>k
 |a::r,b::s,k=>cF G a b (cFs G r s k)
 |_,_,_=>False
def xu:AV->AV->Bool
 |.agg _,.undef=>false
 |.st _ _,.undef=>false
 |.row _ _,.undef=>false
 |_,_=>true
mutual
def cV(G:List Nat):AV->AV->Prop->Prop
 |.cptr c,.cptr d,k=>chk (xu c d) (cV G c d k)
 |.cptr (.st n x),.pt m y,k=>(match l8 n m x with|some x=>some x=y/\k|none=>False)
 |.iface t a,.iface u b,k=>chk (Nat.beq t u) (cV G a b k)
 |.agg cs,.st m y,k=>cFs G cs (cells (.st m) y) k
 |.st n x,.agg ds,k=>cFs G (cells (.st n) x) ds k
 |.agg cs,.agg ds,k=>cL G cs ds k
 |.tup cs,.tup ds,k=>cL G cs ds k
 |.fn f cs,.fn g ds,k=>chk (Nat.beq f g) (cL G cs ds k)
 |a,b,k=>cF G a b k
def cL(G:List Nat):List AV->List AV->Prop->Prop
 |[],[],k=>k
 |a::r,b::s,k=>cV G a b (cL G r s k)
 |_,_,_=>False
end
def cT(G:List Nat)(s:St):List (Nat×AV)->Prop->Prop
 |[],k=>k
 |(i,a)::r,k=>cV G (aZ s.t i) a (cT G s r k)
def cB(G:List Nat)(s:St):List (Nat×SObj)->Prop
 |[]=>True
 |(i,.box d)::r=>(match aj s.b i with|some (.box c)=>chk (xu c d) (cV G c d (cB G s r))|_=>False)
 |(i,.tail τ n)::r=>
  (match aj s.b i with
  |some (.tail σ m)=>chk (decide (σ=τ)) (m=n/\cB G s r)
  |none=>n=0/\cB G s r
  |_=>False)
 |(i,.map κ τ m)::r=>(match aj s.b i with|some (.map κ' τ' m')=>(match EJ κ' τ' κ τ m' with|some m'=>m'=m/\cB G s r|none=>False)|_=>False)
 |(i,.bld t u l)::r=>(match aj s.b i with|some (.bld t' u' l')=>chk (decide (t'=t/\u'=u)) (l'=l/\cB G s r)|_=>False)
 |(_,.tailp _ _ _)::_=>False
 |(i,.grow τ s' xs)::r=>
  (match aj s.b i with
  |some (.grow σ t ys)=>(match fy σ τ ys with|some ys=>t=s'/\ys=xs/\cB G s r|none=>False)
  |none=>s'=0/\xs=[]/\cB G s r
  |_=>False)
def cS(s s':St):Prop:=
 chk (bV ((aM s.b).filter fun i=>!(aM s'.b).contains i) s'&&((aM s.b).filter fun i=>!(aM s'.b).contains i).all (fun i=>!bd i))
  (cT (eQ s s') s s'.t (cB (eQ s s') s s'.b))
inductive SX where
 |normal|exit (id:Nat)|ret|pan (v:AV)
structure LA where
 ι:Type
 pre:ι->Prop
 t:ι->List (Nat×AV)
 b:ι->List (Nat×SObj)
 m:ι->Nat
structure An where
 l:List (Nat×(St->LA))
 p:List (Nat×List Nat)
 j:List (Nat×(St->List (Nat×AV)×List (Nat×SObj)))
def Ig:List (Nat×(St->List (Nat×AV)×List (Nat×SObj)))->Nat->Option (St->List (Nat×AV)×List (Nat×SObj))
 |[],_=>none
 |(j,x)::r,i=>if j ==i then some x else Ig r i
def so:List (Nat×List Nat)->Nat->List Nat
 |[],_=>[]
 |(j,x)::r,i=>if j ==i then x else so r i
def cY:Code->List Nat
 |.region _ ops _=>ops.toList.filterMap (·.dst)
 |.seq a b=>cY a++cY b
 |.cond _ a b=>cY a++cY b
 |.block _ c|.loop c|.scope c=>cY c
 |_=>[]
def iZ(D:List Nat)(s:St)(ts:List (Nat×AV))(bs:List (Nat×SObj)):St:=
 ⟨ts++s.t.filter fun x=>!D.contains x.1&&!(sq ts).contains x.1,bs++s.b.filter fun x=>!(EI D D x.1&&!bd x.1)&&!(sq bs).contains x.1⟩
where sq {α:Type} (l:List (Nat×α)):List Nat:=l.map (·.1)
def dY:Code->Option Nat
 |.region id _ _=>some id
 |.seq a b=>(dY a).or (dY b)
 |.cond _ a b=>(dY a).or (dY b)
 |.block _ c|.loop c|.scope c=>dY c
 |_=>none
def Ml(l:List (Nat×(St->LA)))(i:Nat):Option (St->LA):=
 match l with
 |[]=>none
 |(j,a)::r=>if j ==i then some a else Ml r i
def oz(s:St)(t:Nat)(f:Int->LA):LA:=match aZ s.t t with|.int _ n=>f n|_=>⟨Nat,fun _=>False,fun _=>[],fun _=>[],fun _=>0⟩
mutual
def forceV:AV->(AV->Prop)->Prop
 |.undef,k=>k .undef
 |.int κ n,k=>k (.int κ n)
 |.bool b,k=>k (.bool b)
 |.str s,k=>k (.str s)
 |.lst τ xs none,k=>k (.lst τ xs none)
 |.lst τ xs (some i),k=>k (.lst τ xs (some i))
 |.nils,k=>k .nils
 |.ptr i o,k=>k (.ptr i o)
 |.cptr c,k=>forceV c fun c=>k (.cptr c)
 |.nilp,k=>k .nilp
 |.st n x,k=>k (.st n x)
 |.agg cs,k=>forceL cs fun cs=>k (.agg cs)
 |.tup cs,k=>forceL cs fun cs=>k (.tup cs)
 |.fn f cs,k=>forceL cs fun cs=>k (.fn f cs)
 |.row τ xs,k=>k (.row τ xs)
 |.arr i n w,k=>k (.arr i n w)
 |.aptr i n w o,k=>k (.aptr i n w o)
 |.map i,k=>k (.map i)
 |.bptr i,k=>k (.bptr i)
 |.iface t a,k=>forceV a fun a=>k (.iface t a)
 |.nilif,k=>k .nilif
 |.nilm,k=>k .nilm
 |.pt n x,k=>k (.pt n x)
 |.lstp τ xs i,k=>k (.lstp τ xs i)
 |.tptr τ n i,k=>k (.tptr τ n i)
 |.glst s n i,k=>k (.glst s n i)
 |.gptr i s n w o,k=>k (.gptr i s n w o)
 |.gsuf i s n w m,k=>k (.gsuf i s n w m)
def forceL:List AV->(List AV->Prop)->Prop
 |[],k=>k []
 |a::r,k=>forceV a fun a=>forceL r fun r=>k (a::r)
end
def xw:List (Nat×AV)->(List (Nat×AV)->Prop)->Prop
 |[],k=>k []
 |(i,a)::r,k=>forceV a fun a=>xw r fun r=>k ((i,a)::r)
def gj:List (Nat×SObj)->(List (Nat×SObj)->Prop)->Prop
 |[],k=>k []
 |(i,.box c)::r,k=>forceV c fun c=>gj r fun r=>k ((i,.box c)::r)
 |(i,.tail τ n)::r,k=>gj r fun r=>k ((i,.tail τ n)::r)
 |(i,.map κ τ m)::r,k=>gj r fun r=>k ((i,.map κ τ m)::r)
 |(i,.bld t u l)::r,k=>gj r fun r=>k ((i,.bld t u l)::r)
 |(i,.tailp τ n x)::r,k=>gj r fun r=>k ((i,.tailp τ n x)::r)
 |(i,.grow τ s xs)::r,k=>gj r fun r=>k ((i,.grow τ s xs)::r)
def fq(s:St)(k:St->Prop):Prop:=xw s.t fun t=>gj s.b fun b=>k ⟨t,b⟩
def EK:List Oper->List Nat->List Oper->List Nat
 |_,_,[]=>[]
 |ops,w,o::r=>((dP ops o).filter fun t=>!w.contains t)++EK ops (o.dst.toList++w) r
def jt:Code->List Nat
 |.region _ ops _=>EK ops.toList [] ops.toList
 |.seq a b=>jt a++jt b
 |.cond (.tmp t) a b=>t::(jt a++jt b)
 |.cond _ a b=>jt a++jt b
 |.block _ c|.loop c|.scope c=>jt c
 |_=>[]
def MA:ResultVar->Nat
 |.tmp t=>t
 |.cell a _=>a
def MB(fn:Func)(c:Code):List Nat:=(jt c++fn.results.toList.map MA).eraseDups
def trim(keep:List Nat)(s:St):St:=⟨s.t.filter fun x=>keep.contains x.1,s.b⟩
def ju:List Nat->(List Nat->Prop)->Prop
 |[],k=>k []
 |0::r,k=>ju r fun r=>k (0::r)
 |(n+1)::r,k=>ju r fun r=>k ((n+1)::r)
def KT(c:Operand)(v:Bool)(s:St):St:=
 match c with
 |.tmp t=>⟨gI s.t t (.bool v),s.b⟩
 |_=>s
structure KL where
 m1:Nat
 src:Operand
 it:Nat
 t:Nat
 nx:Nat
 c:Nat
 en:Nat
 k1:Nat
 kv:Nat
 d1:Nat
 dst:Nat
 k2:Nat
 t2:Nat
 n:Int
def KL.wr(L:KL):List Nat:=[L.m1,L.it,L.nx,L.c,L.en,L.k1,L.kv,L.d1,L.k2]
def sq:Code->Code->Option KL
 |.region _ r1 false,.block x (.loop (.seq (.region _ r2 false) (.seq (.cond (.tmp c) .skip (.exit x2)) (.block _ (.seq (.region _ r3 false) (.region _ r4 false))))))=>
  match r1.toList,r2.toList,r3.toList,r4.toList with
  |[⟨some m1,.move src,_,_,_,none⟩,⟨some it,.range t (.tmp m1'),_,_,_,none⟩],
   [⟨some nx,.next (.tmp it') false,_,_,_,none⟩,⟨some c',.extract (.tmp nx') 0,_,_,_,none⟩],
   [⟨some en,.entry (.tmp it''),_,_,_,none⟩,⟨some k1,.extract (.tmp en') 0,_,_,_,none⟩,⟨some kv,.assign (.tmp k1'),_,_,_,none⟩],
   [⟨some d1,.move (.tmp dst),_,_,_,none⟩,⟨some k2,.move (.tmp kv'),_,_,_,none⟩,⟨none,.mapUpdate t2 (.tmp d1') (.tmp k2') (.const (.int .i64 n)),_,_,_,none⟩]=>
   if x2 ==x&&m1' ==m1&&it' ==it&&it'' ==it&&nx' ==nx&&c' ==c&&en' ==en&&k1' ==k1&&kv' ==kv&&d1' ==d1&&k2' ==k2&&okC .i64 n
    && bp [m1,it,nx,c,en,k1,kv,d1,k2,dst]then
    some ⟨m1,src,it,t,nx,c,en,k1,kv,d1,dst,k2,t2,n⟩else none
  |_,_,_,_=>none
 |_,_=>none
def Ih(C:Cfg)(L:KL)(s:St)(Q:SX->St->Prop):Prop:=
 match opd (aZ s.t) L.src,aZ s.t L.dst with
 |.map i,.map j=>
  match aj s.b i,aj s.b j,aB C.tbl L.t,aB C.tbl L.t2 with
  |some (.map .str _ m),some (.map .str (.int .i64) d),some ⟨.map _ _,_,_,_,_⟩,some ⟨.map kt _,_,_,_,_⟩=>
   (match aB C.tbl kt with
   |some rk=>
    if(jT C rk.ti .str&&!(i ==j))=true then
     ∀d':List (Str×Int),(d'.map (·.1)).Nodup->(∀k,cu d' k=if(cu m k).isSome=true then some L.n else cu d k)->
      Q .normal ⟨s.t.filter fun x=>!L.wr.contains x.1,r8 s.b j (.map .str (.int .i64) d')⟩
    else False
   |none=>False)
  |_,_,_,_=>False
 |_,_=>False
def kq(C:Cfg)(keep:List Nat)(ops:Array Oper)(draw:Bool)(s:St)(Q:SX->St->Prop):Prop:=
 bR C ops.toList draw (fun v s=>fq s fun s=>forceV v fun v=>Q (.pan v) s) ops.toList 0 s [] fun s' fs=>Mz s' fun s'=>fq (trim keep s') fun s'=>
  if draw then(if dB ops.toList fs then Q .normal s' else False)else Q .normal s'
def ev(i j k:Nat):Nat:=match Nat.beq k i with|true=>j|false=>(match Nat.beq k j with|true=>i|false=>k)
def Ii(i j:Nat)(a:AV):Option AV:=mapV (fun k o=>some (ev i j k,o)) (fun k=>some (ev i j k)) (fun k=>some (ev i j k)) a
def FC(i j:Nat):List (Nat×AV)->List (Nat×AV)
 |[]=>[]
 |(k,a)::r=>(k,match Ii i j a with|some a=>a|none=>.undef)::FC i j r
def su(i j:Nat):List (Nat×SObj)->Option (List (Nat×SObj))
 |[]=>some []
 |(k,.box c)::r=>(match Ii i j c,su i j r with|some c,some r=>some ((ev i j k,.box c)::r)|_,_=>none)
 |(k,o)::r=>(match su i j r with|some r=>some ((ev i j k,o)::r)|none=>none)
def Ij(i j:Nat)(s:St):Option St:=
 match !bd i&&!bd j with
 |true=>(match su i j s.b with|some b=>some ⟨FC i j s.t,b⟩|none=>none)
 |false=>none
def Ik:List Nat->St->Option St
 |i::j::r,s=>(match Ij i j s with|some s=>Ik r s|none=>none)
 |_,s=>some s
def Il:List Nat->St->Option St
 |i::j::r,s=>(match aj s.b i with|some _=>(match Ij i j s with|some s=>Il r s|none=>none)|none=>Il r s)
 |_,s=>some s
def EL(ann:An)(c:Code)(W:St->(SX->St->Prop)->Prop)(s:St)(Q:SX->St->Prop):Prop:=
 match((dY c).bind (Ml ann.l)).map (fun A=>A s)with
 |none=>False
 |some A=>
  (∃x,A.pre x/\fq (iZ (cY c) s (A.t x) (A.b x)) fun i=>cS s i)/\
  ∀x,A.pre x->fq (iZ (cY c) s (A.t x) (A.b x)) fun i=>W i fun
   |.normal,s'=>∃y,A.pre y/\A.m y<A.m x/\fq (iZ (cY c) s (A.t y) (A.b y)) fun i=>cS s' i
   |e,s'=>Q e s'
def KU(C:Cfg)(keep:List Nat)(ops:Array Oper)(draw:Bool)(s:St):Option (Prop×(Bool->St)):=
 match draw,ops.toList with
 |false,[⟨some m,.move src,_,_,_,none⟩,⟨some c,.binOp .eql t (.tmp m') (.const (.slice none 0 0)) _,_,_,_,none⟩]=>
  (match Nat.beq m' m&&!Nat.beq c m,aB C.tbl t,opd (aZ s.t) src with
  |true,some ⟨.slice _,_,_,_,_⟩,.lst τ xs _=>some (xs=[],fun b=>trim keep ⟨gI (gI s.t m (.lst τ xs none)) c (.bool b),s.b⟩)
  |true,some ⟨.slice _,_,_,_,_⟩,.glst s1 n k=>some (n=0,fun b=>trim keep ⟨gI (gI s.t m (.glst s1 n k)) c (.bool b),s.b⟩)
  |_,_,_=>none)
 |_,_=>none
def rH(C:Cfg)(keep:List Nat)(ann:An)(id:Nat)(ops:Array Oper)(draw:Bool)(s:St)(Q:SX->St->Prop):Prop:=
 match px (so ann.p id) s with
 |none=>False
 |some s=>
  match enter ops.toList s with
  |none=>False
  |some s=>
   match Ig ann.j id with
   |none=>kq C keep ops draw s Q
   |some J=>kq C keep ops draw s (fun x s'=>match x with|.normal=>cS s' (iZ (cY (.region id ops draw)) s (J s).1 (J s).2)|e=>Q e s')/\
     fq (iZ (cY (.region id ops draw)) s (J s).1 (J s).2) fun i=>Q .normal i
def swp(C:Cfg)(keep:List Nat)(ann:An):Code->St->(SX->St->Prop)->Prop
 |.skip,s,Q=>Q .normal s
 |.seq a b,s,Q=>
  match sq a b with
  |some L=>Ih C L s fun x s=>fq s fun s=>Q x s
  |none=>
   match(dY b).bind fun r=>Ig ann.j (100000+r)with
   |none=>swp C keep ann a s fun
    |.normal,s'=>swp C keep ann b s' Q
    |e,s'=>Q e s'
   |some J=>swp C keep ann a s (fun x s'=>match x with|.normal=>cS s' (iZ (cY a) s (J s).1 (J s).2)|e=>Q e s')/\
     fq (iZ (cY a) s (J s).1 (J s).2) fun i=>swp C keep ann b i Q
 |.cond c a b,s,Q=>
  match opd (aZ s.t) c with
  |.bool b'=>sp b' (swp C keep ann a (KT c true s) Q) (swp C keep ann b (KT c false s) Q)
  |_=>False
 |.block id c,s,Q=>swp C keep ann c s fun
  |.exit j,s'=>if j ==id then Q .normal s' else Q (.exit j) s'
  |e,s'=>Q e s'
 |.exit id,s,Q=>Q (.exit id) s
 |.scope c,s,Q=>swp C keep ann c s Q
 |.label _,s,Q=>Q .normal s
 |.ret,s,Q=>
  match so ann.p 500000 with
  |[]=>Q .ret s
  |l=>(match Il l s with|some s=>fq s fun s=>Q .ret s|none=>False)
 |.region id ops draw,s,Q=>
  match KU C keep ops draw s with
  |some (p,f)=>∀b:Bool,(b=true->p)->fq (f b) fun s=>Q .normal s
  |none=>
  match Ik (so ann.p (300000+id)) s with
  |none=>False
  |some s=>
  match so ann.p (400000+id)with
  |[]=>rH C keep ann id ops draw s Q
  |k::ts=>(match My k ts s with|some (q,s)=>q/\fq s fun s=>rH C keep ann id ops draw s Q|none=>False)
 |.loop c,s,Q=>
  match(dY c).map fun r=>so ann.p (200000+r)with
  |some (n::l)=>swp C keep ann c s fun
   |.normal,s'=>fq s' fun i=>(match Ik l i with|some i=>fq i fun i=>EL ann c (swp C keep ann c) i Q|none=>False)
   |e,s'=>Q e s'
  |_=>EL ann c (swp C keep ann c) s Q
 |_,_,_=>False
def l0(tbl:List (Nat×TR))(s:St):List ResultVar->Option (List AV)
 |[]=>some []
 |.tmp t::r=>(match l0 tbl s r with|some l=>some (aZ s.t t::l)|none=>none)
 |.cell a t::r=>
  (match aZ s.t a,aB tbl t with
   |.ptr id off,some rt=>
    (match aj s.b id with
    |some (.box c)=>(match lf rt c off,l0 tbl s r with|some v,some l=>some (v::l)|_,_=>none)
    |_=>none)
   |_,_=>none)
def df:Nat->List AV->List (Nat×AV)
 |_,[]=>[]
 |i,a::r=>(i,a)::df (i+1) r
def vQ(res:Option (List AV))(s:St)(val:AV)(b:List (Nat×SObj)):Prop:=
 match res with
 |some [a]=>cS ⟨[(0,a)],s.b⟩ ⟨[(0,val)],b⟩
 |some l=>(match val with|.tup rs=>if ga l rs.length then cS ⟨df 0 l,s.b⟩ ⟨df 0 rs,b⟩else False|_=>False)
 |none=>False
def bE(n:Nat):Code->Bool
 |.region _ ops _=>ops.toList.all fun o=>match o.dst with|some d=>Nat.blt d n|none=>true
 |.seq a b=>bE n a&&bE n b
 |.cond _ a b=>bE n a&&bE n b
 |.block _ c=>bE n c
 |.loop c=>bE n c
 |.scope c=>bE n c
 |_=>true
def fwp(C:Cfg)(ann:An)(fn:Func)(args:List AV)(S:List (Nat×SObj))(A:Ans):Prop:=
 match fn.body with
 |none=>False
 |some c=>
  match bE fn.ntmps c&&mU args fn.ntmps&&(aM S).all bd with
  |false=>False
  |true=>ju (MB fn c) fun keep=>fq ⟨df 0 args,S⟩ fun i=>swp C keep ann c i fun
   |.exit _,_=>False
   |.pan v,s=>(match A.pan with|some (b,pv,u)=>b=true/\cS ⟨[(0,v)],s.b⟩ ⟨[(0,pv)],cr S u⟩|none=>False)
   |_,s=>(match A.pan with|some (b,_,_)=>b=false|none=>True)/\vQ (l0 C.tbl s fn.results.toList) s A.val (cr S A.upd)
end Go.AL
end
noncomputable section
namespace Go.AL
inductive CObj where
 |box (b off len:Nat)
 |tail (n:Nat) (base:Option Nat) (cap:Nat)
 |obj (r:Nat)
 |bld (b:Nat) (g:Option Nat)
structure Om where
 e:Nat->Option CObj
 w:World
 pub:Nat->Nat->Prop
def dC:Option Nat->Option Addr
 |none=>none
 |some b=>some ⟨b,0,none⟩
def bj:Nat:=9223372036854775807
def iu(Ω:Om)(o:Option Nat)(n:Nat)(v:Value):Prop:=
 ∀id,o=some id->∃m base cap,Ω.e id=some (.tail m base cap)/\n<=m/\(n=m->v=.slice (dC base) n cap)
def rI(Ω:Om)(τ:Ty)(n k:Nat)(p:Option Addr):Prop:=
 ∃m base cap,Ω.e k=some (.tail m base cap)/\n+1<=m/\(n+1=m->∃b,base=some b/\p=some ⟨b,n *ab τ,none⟩)
def mn(Ω:Om)(k s:Nat)(a:Option Addr)(cap:Nat):Prop:=
 ∃m base c,Ω.e k=some (.tail m base c)/\s<=m/\(s=m->a=dC base/\cap=c)
def z6(Ω:Om)(k s b:Nat):Prop:=
 ∃m base c,Ω.e k=some (.tail m base c)/\s<=m/\(s=m->base=some b)
inductive V(Ω:Om):AV->Value->Prop
 |undef (v:Value):V Ω .undef v
 |int (k:IntKind) (n:Int):k.min<=n->n<=k.max->V Ω (.int k n) (.int k n)
 |bool (b:Bool):V Ω (.bool b) (.bool b)
 |str (s:Str):s.length<=bj->V Ω (.str s) (.string ⟨s.toArray⟩)
 |lstNil (τ:Ty) (o:Option Nat):iu Ω o 0 (.slice none 0 0)->V Ω (.lst τ [] o) (.slice none 0 0)
 |lst (τ:Ty) (xs:List (den τ)) (o:Option Nat) (b off cap:Nat) (vals:Nat->Nat->Value) :
   xs.length<=cap->cap<=bj->iu Ω o xs.length (.slice (some ⟨b,off,none⟩) xs.length cap)->
   (∀(i:Nat)(x:den τ),xs[i]?=some x->∀(j:Nat)(c:AV),(cells τ x)[j]?=some c->
    Ω.pub b (off+(i *ab τ+j))/\Ω.w.cell? ⟨b,off+(i *ab τ+j),none⟩=some (vals i j))->
   (∀(i:Nat)(x:den τ),xs[i]?=some x->∀(j:Nat)(c:AV),(cells τ x)[j]?=some c->V Ω c (vals i j))->
   V Ω (.lst τ xs o) (.slice (some ⟨b,off,none⟩) xs.length cap)
 |lstVoid (τ:Ty) (a:Addr):V Ω (.lst τ [] none) (.slice (some a) 0 0)
 |nils:V Ω .nils (.slice none 0 0)
 |ptr (id off b o len:Nat):Ω.e id=some (.box b o len)->V Ω (.ptr id off) (.pointer (some ⟨b,o+off,none⟩))
 |cptr (c:AV) (b off:Nat) (vals:Nat->Value) :
   (∀(j:Nat)(c':AV),(ae c)[j]?=some c'->Ω.pub b (off+j)/\Ω.w.cell? ⟨b,off+j,none⟩=some (vals j))->
   (∀(j:Nat)(c':AV),(ae c)[j]?=some c'->V Ω c' (vals j))->
   V Ω (.cptr c) (.pointer (some ⟨b,off,none⟩))
 |nilp:V Ω .nilp (.pointer none)
 |ptNone (n:SN):V Ω (.pt n none) (.pointer none)
 |ptSome (n:SN) (x:SD n) (v:Value):V Ω (.cptr (.st n x)) v->V Ω (.pt n (some x)) v
 |arr (id n w b len cap:Nat) (a:Option Addr):Ω.e id=some (.box b 0 len)->n *w<=len->n<=cap->cap<=bj->(a=some ⟨b,0,none⟩∨a=none/\n=0/\cap=0)->
   V Ω (.arr id n w) (.slice a n cap)
 |aptr (id i w off b o len:Nat):Ω.e id=some (.box b o len)->V Ω (.aptr id i w off) (.pointer (some ⟨b,o+(i *w+off),none⟩))
 |map (id r:Nat):Ω.e id=some (.obj r)->V Ω (.map id) (.map (some r))
 |bptr (id b:Nat) (g:Option Nat):Ω.e id=some (.bld b g)->V Ω (.bptr id) (.pointer (some ⟨b,0,none⟩))
 |iface (t:Nat) (a:AV) (v:Value):V Ω a v->V Ω (.iface t a) (.iface t v)
 |nilif:V Ω .nilif .nilIface
 |nilm:V Ω .nilm (.map none)
 |lstp (τ:Ty) (xs:List (den τ)) (k b off cap:Nat) (vals:Nat->Nat->Value) :
   xs.length+1<=cap->cap<=bj->iu Ω (some k) (xs.length+1) (.slice (some ⟨b,off,none⟩) (xs.length+1) cap)->
   (∀(i:Nat)(x:den τ),xs[i]?=some x->∀(j:Nat)(c:AV),(cells τ x)[j]?=some c->
    Ω.pub b (off+(i *ab τ+j))/\Ω.w.cell? ⟨b,off+(i *ab τ+j),none⟩=some (vals i j))->
   (∀(i:Nat)(x:den τ),xs[i]?=some x->∀(j:Nat)(c:AV),(cells τ x)[j]?=some c->V Ω c (vals i j))->
   V Ω (.lstp τ xs k) (.slice (some ⟨b,off,none⟩) (xs.length+1) cap)
 |tptr (τ:Ty) (n k:Nat) (p:Option Addr):rI Ω τ n k p->V Ω (.tptr τ n k) (.pointer p)
 |glst (s n k cap:Nat) (a:Option Addr):n<=cap->cap<=bj->((∃b,a=some ⟨b,0,none⟩)∨a=none/\n=0/\cap=0)->mn Ω k s a cap->V Ω (.glst s n k) (.slice a n cap)
 |gptr (k s i w off b:Nat):z6 Ω k s b->V Ω (.gptr k s i w off) (.pointer (some ⟨b,i *w+off,none⟩))
 |gsuf (k s i w m b c:Nat):z6 Ω k s b->V Ω (.gsuf k s i w m) (.slice (some ⟨b,i *w,none⟩) m c)
 |st (n:SN) (x:SD n) (v:Value):V Ω (.agg (cells (.st n) x)) v->V Ω (.st n x) v
 |agg (cs:List AV) (vs:List Value):cs.length=vs.length->(∀(j:Nat)(c:AV)(v:Value),cs[j]?=some c->vs[j]?=some v->V Ω c v)->
   V Ω (.agg cs) (.agg vs.toArray)
 |tup (cs:List AV) (vs:List Value):cs.length=vs.length->(∀(j:Nat)(c:AV)(v:Value),cs[j]?=some c->vs[j]?=some v->V Ω c v)->
   V Ω (.tup cs) (.tuple vs.toArray)
 |fn (f:Nat) (cs:List AV) (vs:List Value):cs.length=vs.length->(∀(j:Nat)(c:AV)(v:Value),cs[j]?=some c->vs[j]?=some v->V Ω c v)->
   V Ω (.fn f cs) (.func (.func f) #[] vs.toArray)
def VL(Ω:Om)(cs:List AV)(vs:List Value):Prop:=cs.length=vs.length/\∀(j:Nat)(c:AV)(v:Value),cs[j]?=some c->vs[j]?=some v->V Ω c v
def CLe:CObj->CObj->Prop
 |.box b o l,.box b' o' l'=>b=b'/\o=o'/\l=l'
 |.tail n base cap,.tail n' base' cap'=>n<=n'/\(n=n'->base=base'/\cap=cap')
 |.obj r,.obj r'=>r=r'
 |.bld b _,.bld b' _=>b=b'
 |_,_=>False
theorem CLe.refl(c:CObj):CLe c c:=by cases c<;>simp[CLe]
theorem CLe.box{b o l:Nat}{c:CObj}(h:CLe (.box b o l) c):c=.box b o l:=by cases c<;>simp[CLe]at h;obtain⟨rfl,rfl,rfl⟩:=h;rfl
theorem CLe.obj{r:Nat}{c:CObj}(h:CLe (.obj r) c):c=.obj r:=by cases c<;>simp[CLe]at h;subst h;rfl
theorem CLe.bld{b:Nat}{g:Option Nat}{c:CObj}(h:CLe (.bld b g) c):∃g',c=.bld b g':=by cases c<;>simp[CLe]at h;subst h;exact⟨_,rfl⟩
theorem CLe.trans{a b c:CObj}(h:CLe a b)(k:CLe b c):CLe a c:=by
 cases a<;>cases b<;>cases c<;>simp_all [CLe];rename_i n1 b1 c1 n2 b2 c2 n3 b3 c3;obtain⟨h1,h2⟩:=h;obtain⟨k1,k2⟩:=k;refine⟨by omega,fun e=>?_⟩;have e1:n1=n2:=by omega
 have e2:n2=n3:=by omega
 obtain⟨h3,h4⟩:=h2 e1;obtain⟨k3,k4⟩:=k2 e2;exact⟨h3.trans k3,h4.trans k4⟩
structure Ext(Ω Ω':Om):Prop where
 e:∀id c,Ω.e id=some c->∃c',Ω'.e id=some c'/\CLe c c'
 pub:∀b o,Ω.pub b o->Ω'.pub b o
 cell:∀b o,Ω.pub b o->Ω'.w.cell? ⟨b,o,none⟩=Ω.w.cell? ⟨b,o,none⟩
theorem Ext.refl(Ω:Om):Ext Ω Ω:=⟨fun _ c h=>⟨c,h,CLe.refl c⟩,fun _ _ h=>h,fun _ _ _=>rfl⟩
theorem Ext.trans{a b c:Om}(h:Ext a b)(k:Ext b c):Ext a c:=
 ⟨fun id x hx=>let ⟨y,hy,l⟩:=h.e id x hx;let ⟨z,hz,m⟩:=k.e id y hy;⟨z,hz,l.trans m⟩,
  fun x o p=>k.pub x o (h.pub x o p),fun x o p=>(k.cell x o (h.pub x o p)).trans (h.cell x o p)⟩
theorem iu.ext{Ω Ω':Om}(h:Ext Ω Ω'){o:Option Nat}{n:Nat}{v:Value}(t:iu Ω o n v):iu Ω' o n v:=by
 intro id hid;obtain⟨m,base,cap,he,hle,hv⟩:=t id hid;obtain⟨c',hc',hl⟩:=h.e id _ he
 cases c' with
 |box b o l=>simp[CLe]at hl
 |obj r=>simp[CLe]at hl
 |bld b g=>simp[CLe]at hl
 |tail m' base' cap'=>obtain⟨h1,h2⟩:=hl;refine⟨m',base',cap',hc',by omega,fun e=>?_⟩;obtain⟨e1,e2⟩:=h2 (by omega);rw[hv (by omega),e1,e2]
theorem rI.ext{Ω Ω':Om}(h:Ext Ω Ω'){τ:Ty}{n k:Nat}{p:Option Addr}(t:rI Ω τ n k p):rI Ω' τ n k p:=by
 obtain⟨m,base,cap,he,hle,hv⟩:=t;obtain⟨c',hc',hl⟩:=h.e k _ he
 cases c' with
 |box b o l=>simp[CLe]at hl
 |obj r=>simp[CLe]at hl
 |bld b g=>simp[CLe]at hl
 |tail m' base' cap'=>obtain⟨h1,h2⟩:=hl;refine⟨m',base',cap',hc',by omega,fun e=>?_⟩;obtain⟨e1,e2⟩:=h2 (by omega);rw[<-e1];exact hv (by omega)
theorem mn.ext{Ω Ω':Om}(h:Ext Ω Ω'){k s:Nat}{a:Option Addr}{cap:Nat}(t:mn Ω k s a cap):mn Ω' k s a cap:=by
 obtain⟨m,base,c,he,hle,hv⟩:=t;obtain⟨c',hc',hl⟩:=h.e k _ he
 cases c' with
 |box b o l=>simp[CLe]at hl
 |obj r=>simp[CLe]at hl
 |bld b g=>simp[CLe]at hl
 |tail m' base' cap'=>obtain⟨h1,h2⟩:=hl;refine⟨m',base',cap',hc',by omega,fun e=>?_⟩;obtain⟨e1,e2⟩:=h2 (by omega);obtain⟨g1,g2⟩:=hv (by omega);exact⟨by rw[g1,e1],by rw[g2,e2]⟩
theorem z6.ext{Ω Ω':Om}(h:Ext Ω Ω'){k s b:Nat}(t:z6 Ω k s b):z6 Ω' k s b:=by
 obtain⟨m,base,c,he,hle,hv⟩:=t;obtain⟨c',hc',hl⟩:=h.e k _ he
 cases c' with
 |box b o l=>simp[CLe]at hl
 |obj r=>simp[CLe]at hl
 |bld b g=>simp[CLe]at hl
 |tail m' base' cap'=>obtain⟨h1,h2⟩:=hl;refine⟨m',base',cap',hc',by omega,fun e=>?_⟩;obtain⟨e1,e2⟩:=h2 (by omega);rw[<-e1];exact hv (by omega)
theorem V.ext{Ω Ω':Om}(h:Ext Ω Ω'){a:AV}{v:Value}(hv:V Ω a v):V Ω' a v:=by
 induction hv with
 |undef v=>exact .undef v
 |int k n h1 h2=>exact .int k n h1 h2
 |bool b=>exact .bool b
 |str s hs=>exact .str s hs
 |lstNil τ o ht=>exact .lstNil τ o (ht.ext h)
 |lstVoid τ a=>exact .lstVoid τ a
 |lst τ xs o b off cap vals h1 h2 h3 h4 h5 ih=>
  exact .lst τ xs o b off cap vals h1 h2 (h3.ext h)
   (fun i x hx j c hc=>⟨h.pub _ _ (h4 i x hx j c hc).1,(h.cell _ _ (h4 i x hx j c hc).1).trans (h4 i x hx j c hc).2⟩) ih
 |nils=>exact .nils
 |ptr id off b o len he=>obtain⟨c',hc',hl⟩:=h.e id _ he;exact .ptr id off b o len (by rw[hc',hl.box])
 |ptNone n=>exact .ptNone n
 |ptSome n x v _ ih=>exact .ptSome n x v ih
 |arr id n w b len cap a he h1 h2 h3 h4=>obtain⟨c',hc',hl⟩:=h.e id _ he;exact .arr id n w b len cap a (by rw[hc',hl.box]) h1 h2 h3 h4
 |aptr id i w off b o len he=>obtain⟨c',hc',hl⟩:=h.e id _ he;exact .aptr id i w off b o len (by rw[hc',hl.box])
 |map id r he=>obtain⟨c',hc',hl⟩:=h.e id _ he;exact .map id r (by rw[hc',hl.obj])
 |bptr id b g he=>obtain⟨c',hc',hl⟩:=h.e id _ he;obtain⟨g',rfl⟩:=hl.bld;exact .bptr id b g' hc'
 |iface t a v _ ih=>exact .iface t a v ih
 |nilif=>exact .nilif
 |nilm=>exact .nilm
 |lstp τ xs k b off cap vals h1 h2 h3 h4 h5 ih=>
  exact .lstp τ xs k b off cap vals h1 h2 (h3.ext h)
   (fun i x hx j c hc=>⟨h.pub _ _ (h4 i x hx j c hc).1,(h.cell _ _ (h4 i x hx j c hc).1).trans (h4 i x hx j c hc).2⟩) ih
 |tptr τ n k p hp=>exact .tptr τ n k p (hp.ext h)
 |glst s n k cap a h1 h2 h3 h4=>exact .glst s n k cap a h1 h2 h3 (h4.ext h)
 |gptr k s i w off b h1=>exact .gptr k s i w off b (h1.ext h)
 |gsuf k s i w m b c h1=>exact .gsuf k s i w m b c (h1.ext h)
 |st n x v _ ih=>exact .st n x v ih
 |cptr cs b off vals h1 h2 ih=>exact .cptr cs b off vals (fun j c hc=>⟨h.pub _ _ (h1 j c hc).1,(h.cell _ _ (h1 j c hc).1).trans (h1 j c hc).2⟩) ih
 |nilp=>exact .nilp
 |agg cs vs hl _ ih=>exact .agg cs vs hl ih
 |tup cs vs hl _ ih=>exact .tup cs vs hl ih
 |fn f cs vs hl _ ih=>exact .fn f cs vs hl ih
theorem VL.ext{Ω Ω':Om}(h:Ext Ω Ω'){cs:List AV}{vs:List Value}(hv:VL Ω cs vs):VL Ω' cs vs:=
 ⟨hv.1,fun j c v hc hw=>(hv.2 j c v hc hw).ext h⟩
theorem VL.nil{Ω:Om}:VL Ω [] []:=⟨rfl,fun _ _ _ h=>by simp at h⟩
theorem VL.cons{Ω:Om}{c:AV}{cs:List AV}{v:Value}{vs:List Value}(h:V Ω c v)(hs:VL Ω cs vs):VL Ω (c::cs) (v::vs):=by
 refine⟨by simp[hs.1],fun j d u hd hu=>?_⟩
 cases j with|zero=>simp at hd hu;subst hd hu;exact h|succ j=>simp at hd hu;exact hs.2 j d u hd hu
theorem VL.head{Ω:Om}{c:AV}{cs:List AV}{v:Value}{vs:List Value}(h:VL Ω (c::cs) (v::vs)):V Ω c v:=h.2 0 c v rfl rfl
theorem VL.tail{Ω:Om}{c:AV}{cs:List AV}{v:Value}{vs:List Value}(h:VL Ω (c::cs) (v::vs)):VL Ω cs vs:=
 ⟨by have:=h.1;simp at this;exact this,fun j d u hd hu=>h.2 (j+1) d u (by simpa using hd) (by simpa using hu)⟩
theorem VL.cases{Ω:Om}{cs:List AV}{vs:List Value}(h:VL Ω cs vs) :
  (cs=[]/\vs=[])∨∃c cs' v vs',cs=c::cs'/\vs=v::vs'/\V Ω c v/\VL Ω cs' vs':=by
 cases cs with
 |nil=>left;exact⟨rfl,Oc (by rw[<-h.1];rfl)⟩
 |cons c cs=>
  cases vs with|nil=>exact absurd h.1 (by simp)|cons v vs=>exact Or.inr ⟨c,cs,v,vs,rfl,rfl,h.head,h.tail⟩
theorem VL.append{Ω:Om}{cs ds:List AV}{vs us:List Value}(h:VL Ω cs vs)(k:VL Ω ds us):VL Ω (cs++ds) (vs++us):=by
 refine⟨by simp[h.1,k.1],fun j c v hc hv=>?_⟩;by_cases hj:j<cs.length
 ·rw[Ob hj]at hc;rw[Ob (by rw[<-h.1];exact hj)]at hv;exact h.2 j c v hc hv
 ·rw[Oe (by omega)]at hc;rw[Oe (by rw[<-h.1];omega),<-h.1]at hv;exact k.2 _ c v hc hv
theorem V.agg_inv{Ω:Om}{cs:List AV}{v:Value}(h:V Ω (.agg cs) v):∃vs,v=.agg vs.toArray/\VL Ω cs vs:=by
 cases h with|agg _ vs h1 h2=>exact⟨vs,rfl,h1,h2⟩
theorem V.tup_inv{Ω:Om}{cs:List AV}{v:Value}(h:V Ω (.tup cs) v):∃vs,v=.tuple vs.toArray/\VL Ω cs vs:=by
 cases h with|tup _ vs h1 h2=>exact⟨vs,rfl,h1,h2⟩
theorem V.of_agg{Ω:Om}{cs:List AV}{vs:List Value}(h:VL Ω cs vs):V Ω (.agg cs) (.agg vs.toArray):=.agg cs vs h.1 h.2
theorem V.of_tup{Ω:Om}{cs:List AV}{vs:List Value}(h:VL Ω cs vs):V Ω (.tup cs) (.tuple vs.toArray):=.tup cs vs h.1 h.2
theorem aQ(τ:Ty)(x:den τ):(cells τ x).length=ab τ:=by
 cases τ with
 |st n=>cases n<;>rfl
 |_=>rfl
theorem kr(τ:Ty)(x:den τ):(cells τ x).all jQ=true:=by
 cases τ with
 |st n=>cases n<;>rfl
 |_=>rfl
theorem aY(τ:Ty):∀xs:List (den τ),(flat τ xs).length=xs.length *ab τ
 |[]=>by simp[flat]
 |x::xs=>by have:=aY τ xs;simp only[flat,PM,Oj,aQ,O8]at this⊢;rw[this,OU];omega
theorem jU(τ:Ty):0<ab τ:=by
 cases τ with
 |st n=>cases n<;>simp[ab]
 |_=>simp[ab]
theorem gl(τ:Ty):∀(xs:List (den τ))(i:Nat)(x:den τ)(j:Nat)(c:AV),xs[i]?=some x->(cells τ x)[j]?=some c->(flat τ xs)[i *ab τ+j]?=some c
 |[],i,x,j,c,h,_=>by simp at h
 |y::ys,0,x,j,c,h,hc=>by
  simp at h;subst h
  have hj:j<(cells τ y).length:=by
   rcases O5 j (cells τ y).length with k|k
   ·exact k
   ·rw[O2 k]at hc;cases hc
  simp only[flat,PM,Nat.zero_mul,P0];rw[Ob hj];exact hc
 |y::ys,i+1,x,j,c,h,hc=>by simp at h;have:=gl τ ys i x j c h hc;simp only[flat,PM]at this⊢;rw[Oe (by rw[aQ,OU];omega),aQ];rw[show(i+1) *ab τ+j-ab τ=i *ab τ+j from by rw[OU];omega];exact this
theorem cJ(τ:Ty)(xs ys:List (den τ)):flat τ (xs++ys)=flat τ xs++flat τ ys:=by simp[flat]
theorem vR(τ:Ty)(xs:List (den τ)):(flat τ xs).all jQ=true:=by simp only[flat,List.all_flatMap];exact O9.2 fun x _=>kr τ x
theorem V.parts{Ω:Om}{a:AV}{v:Value}(h:V Ω a v)(hl:(ae a).all jQ=true):VL Ω (ae a) v.cells.toList:=by
 cases h with
 |agg cs vs h1 h2=>exact⟨h1,h2⟩
 |undef v=>simp[ae,jQ]at hl
 |tup cs vs h1 h2=>simp[ae,jQ]at hl
 |int k n h1 h2=>exact VL.cons (.int k n h1 h2) .nil
 |bool b=>exact VL.cons (.bool b) .nil
 |str s hs=>exact VL.cons (.str s hs) .nil
 |lstNil τ o ht=>exact VL.cons (.lstNil τ o ht) .nil
 |lstVoid τ a=>exact VL.cons (.lstVoid τ a) .nil
 |lst τ xs o b off cap vals h1 h2 h3 h4 h5=>exact VL.cons (.lst τ xs o b off cap vals h1 h2 h3 h4 h5) .nil
 |nils=>exact VL.cons .nils .nil
 |ptr id off b o len hb=>exact VL.cons (.ptr id off b o len hb) .nil
 |ptNone n=>exact VL.cons (.ptNone n) .nil
 |ptSome n x v hv=>
  have hv':=hv
  cases hv with|cptr _ b off vals h1 h2=>exact VL.cons (.ptSome n x _ hv') .nil
 |arr id n w b len cap a h1 h2 h3 h4 h5=>exact VL.cons (.arr id n w b len cap a h1 h2 h3 h4 h5) .nil
 |aptr id i w off b o len h1=>exact VL.cons (.aptr id i w off b o len h1) .nil
 |map id r h1=>exact VL.cons (.map id r h1) .nil
 |bptr id b g h1=>exact VL.cons (.bptr id b g h1) .nil
 |iface t a v hv=>exact VL.cons (.iface t a v hv) .nil
 |nilif=>exact VL.cons .nilif .nil
 |nilm=>exact VL.cons .nilm .nil
 |lstp τ xs k b off cap vals h1 h2 h3 h4 h5=>exact VL.cons (.lstp τ xs k b off cap vals h1 h2 h3 h4 h5) .nil
 |tptr τ n k p hp=>exact VL.cons (.tptr τ n k p hp) .nil
 |glst s n k cap a h1 h2 h3 h4=>exact VL.cons (.glst s n k cap a h1 h2 h3 h4) .nil
 |gptr k s i w off b h1=>exact VL.cons (.gptr k s i w off b h1) .nil
 |gsuf k s i w m b c h1=>exact VL.cons (.gsuf k s i w m b c h1) .nil
 |cptr cs b off vals h1 h2=>exact VL.cons (.cptr cs b off vals h1 h2) .nil
 |st n x v h1=>obtain⟨vs,rfl,hv⟩:=h1.agg_inv;exact hv
 |nilp=>exact VL.cons .nilp .nil
 |fn f cs vs h1 h2=>exact VL.cons (.fn f cs vs h1 h2) .nil
theorem V.leaf_one{Ω:Om}{a:AV}{v:Value}(h:V Ω a v)(hl:jQ a=true):v.oneCell'=true:=by
 cases h with
 |ptSome n x v hv=>cases hv;rfl
 |undef v=>cases hl
 |agg cs vs h1 h2=>cases hl
 |tup cs vs h1 h2=>cases hl
 |st n x v h1=>cases hl
 |_=>rfl
theorem VL.leaf_one{Ω:Om}{cs:List AV}{vs:List Value}(h:VL Ω cs vs)(hl:cs.all jQ=true):∀v∈vs,v.oneCell'=true:=by
 intro v hv;obtain⟨j,hj,e⟩:=Rb.1 hv;have hj':j<cs.length:=by rw[h.1];exact hj
 have hc:cs[j]?=some cs[j]:=NY hj';have hw:vs[j]?=some v:=by rw[NY hj,e]
 exact(h.2 j _ _ hc hw).leaf_one (O9.1 hl _ (QK hj'))
end Go.AL
end
noncomputable section
namespace Go.AL
structure AS where
 T:Nat->AV
 B:Nat->Option SObj
def St.abs(s:St):AS:=⟨aZ s.t,aj s.b⟩
def occ:CObj->Nat->Nat->Prop
 |.box b off len,b',o=>b'=b/\off<=o/\o<off+len
 |.tail _ base _,b',_=>base=some b'
 |.obj r,b',_=>b'=r
 |.bld b g,b',_=>b'=b∨g=some b'
class Tabs where
 tab:Nat->Nat->Value->Prop
 obj:Nat->Obj->Prop
abbrev xx:Tabs:=⟨fun _ _ _=>False,fun _ _=>False⟩
variable [Tabs]
def gM(e:Nat->Option CObj)(b o:Nat):Prop:=∃id c,e id=some c/\occ c b o
def ec(w:World)(pub:Nat->Nat->Prop)(e:Nat->Option CObj):Prop:=
 (∀b o v,Tabs.tab b o v->pub b o/\w.cell? ⟨b,o,none⟩=some v)/\∀b x,Tabs.obj b x->w.heap[b]?=some x/\∀o,¬gM e b o
structure Fr where
 w0:World
 pub0:Nat->Nat->Prop
 n:Nat
 e0:Nat->Option CObj
 dom0:∀id c,e0 id=some c->bd id=true
 ds:List Deferred
 tab0:ec w0 pub0 e0
def Fr.br(F:Fr)(b o:Nat):Prop:=gM F.e0 b o
def Fr.own(F:Fr)(b o:Nat):Prop:=F.w0.heap.size<=b∨F.br b o
structure MapOK(Ω:Om)(κ τ:Ty)(m:List (den κ×den τ))(es:Array MapEntry)(clock:Nat):Prop where
 size:es.size=m.length
 ent:∀(i:Nat)(e:MapEntry)(x:den κ×den τ),es[i]?=some e->m[i]?=some x->V Ω (inj κ x.1) e.key/\V Ω (inj τ x.2) e.val
 keys:(m.map (·.1)).Nodup
 born:∀(i:Nat)(e:MapEntry),es[i]?=some e->e.born<clock
 rise:∀(i j:Nat)(e f:MapEntry),es[i]?=some e->es[j]?=some f->i<j->e.born<f.born
 idx:∀(i:Nat)(e:MapEntry),es[i]?=some e->e.born=i
 top:clock=es.size
def vS(w:World)(t u b:Nat)(g:Option Nat)(l:Str):Prop:=
 ∃p v,w.heap[b]?=some (.cells #[p,v] t (0,0))/\(p=.pointer none∨p=.pointer (some ⟨b,0,none⟩))/\v.ownBlock=g/\g≠some b/\w.ownsRowF 0 u 1 v l.length (Lib.byteCells l)/\(l=[]->v=.slice none 0 0)
theorem vS.congr{w w':World}{t u b:Nat}{g:Option Nat}{l:Str}(h:vS w t u b g l)(hb:∀b',(b'=b∨g=some b')->w'.heap[b']?=w.heap[b']?):vS w' t u b g l:=by
 obtain⟨p,v,h1,h2,h3,h4,⟨h5,h6⟩,h7⟩:=h;refine⟨p,v,by rw[hb b (.inl rfl),h1],h2,h3,h4,⟨h5,?_⟩,h7⟩;rcases h6 with h6|⟨g',cap,cur,fz,rfl,k1,k2,k3⟩
 ·exact .inl h6
 ·refine .inr ⟨g',cap,cur,fz,rfl,k1,?_,k3⟩;rw[hb g' (.inr (by rw[<-h3];rfl)),k2]
theorem vS.lt{w:World}{t u b:Nat}{g:Option Nat}{l:Str}(h:vS w t u b g l){b':Nat}(hb:b'=b∨g=some b'):b'<w.heap.size:=by
 obtain⟨p,v,h1,h2,h3,h4,h5,_⟩:=h;rcases hb with rfl|hb
 ·exact(OB.1 h1).1
 ·exact(h5.lt b' (by rw[h3,hb])).2
def bn(Ω:Om)(own:Nat->Nat->Prop)(id:Nat):SObj->Prop
 |.box c=>∃b off,Ω.e id=some (.box b off (ae c).length)/\∀(j:Nat)(c':AV),(ae c)[j]?=some c'->
   own b (off+j)/\¬Ω.pub b (off+j)/\Ω.w.frozen? ⟨b,off+j,none⟩=false/\∃v,Ω.w.cell? ⟨b,off+j,none⟩=some v/\V Ω c' v
 |.tail τ n=>∃base cap,Ω.e id=some (.tail n base cap)/\n<=cap/\cap<=bj/\
   (base=none->cap=0)/\
   ∀b,base=some b->(∀o,own b o)/\∃vs ty fz,Ω.w.heap[b]?=some (.cells vs ty fz)/\fz.2=0/\cap *ab τ<=vs.size/\∀o,n *ab τ<=o->¬Ω.pub b o
 |.map κ τ m=>∃r,Ω.e id=some (.obj r)/\(∀o,own r o)/\∃es clock,Ω.w.heap[r]?=some (.map es clock)/\MapOK Ω κ τ m es clock
 |.tailp τ n x=>∃b cap,Ω.e id=some (.tail (n+1) (some b) cap)/\n+1<=cap/\cap<=bj/\(∀o,own b o)/\
   (∃vs ty fz,Ω.w.heap[b]?=some (.cells vs ty fz)/\fz.2=0/\cap *ab τ<=vs.size)/\(∀o,n *ab τ<=o->¬Ω.pub b o)/\
   ∀(j:Nat)(c:AV),(cells τ x)[j]?=some c->∃v,Ω.w.cell? ⟨b,n *ab τ+j,none⟩=some v/\V Ω c v
 |.grow τ s xs=>∃base cap,Ω.e id=some (.tail s base cap)/\xs.length<=cap/\cap<=bj/\(base=none->cap=0)/\
   ∀b,base=some b->(∀o,own b o)/\(∃vs ty fz,Ω.w.heap[b]?=some (.cells vs ty fz)/\fz.2=0/\cap *ab τ<=vs.size)/\(∀o,¬Ω.pub b o)/\
   ∀(j:Nat)(c:AV),(flat τ xs)[j]?=some c->∃v,Ω.w.cell? ⟨b,j,none⟩=some v/\V Ω c v
 |.bld t u l=>∃b g,Ω.e id=some (.bld b g)/\(∀b',(b'=b∨g=some b')->∀o,own b' o/\¬Ω.pub b' o)/\vS Ω.w t u b g l
structure FrameOK(F:Fr)(Ω:Om):Prop where
 os:Ω.w.os=F.w0.os
 tape:Ω.w.tape=F.w0.tape
 output:Ω.w.output=F.w0.output
 size:F.w0.heap.size<=Ω.w.heap.size
 block:∀b,b<F.w0.heap.size->(∀o,¬F.br b o)->Ω.w.heap[b]?=F.w0.heap[b]?
 cell:∀b o,b<F.w0.heap.size->¬F.br b o->Ω.w.cell? ⟨b,o,none⟩=F.w0.cell? ⟨b,o,none⟩
 kind:∀b,b<F.w0.heap.size->¬(∀o,F.br b o)->Ω.w.shape? b=F.w0.shape? b/\∀o,Ω.w.frozen? ⟨b,o,none⟩=F.w0.frozen? ⟨b,o,none⟩
 pub:∀b o,Ω.pub b o->F.pub0 b o∨F.own b o
 old:∀b o,F.pub0 b o->Ω.pub b o
 pcell:∀b o,F.pub0 b o->Ω.w.cell? ⟨b,o,none⟩=F.w0.cell? ⟨b,o,none⟩
structure Holds(F:Fr)(s:AS)(a:Act)(Ω:Om):Prop where
 tmps:∀i,V Ω (s.T i) (a.tmps.getD i undef)
 size:a.tmps.size=F.n
 defers:a.defers=F.ds
 slots:∀id o,s.B id=some o->bn Ω F.own id o
 dom:∀id,s.B id=none->Ω.e id=none
 inj:∀i j c d b o,Ω.e i=some c->Ω.e j=some d->occ c b o->occ d b o->i=j
 pubok:∀b o,Ω.pub b o->∃v,Ω.w.cell? ⟨b,o,none⟩=some v
 keep:∀id c,F.e0 id=some c->∃c',Ω.e id=some c'/\CLe c c'
 frame:FrameOK F Ω
def bz(T:Nat->AV)(d:Option Nat)(v:AV):Nat->AV:=
 match d with
 |some d=>fun i=>if d=i then v else T i
 |none=>T
theorem Holds.step{F:Fr}{s:AS}{a:Act}{Ω Ω':Om}{B':Nat->Option SObj}{dst:Option Nat}{val:AV}{v:Value}
 (h:Holds F s a Ω)(hx:Ext Ω Ω')(hv:V Ω' val v)(hd:∀d,dst=some d->d<F.n)
 (hs:∀id o,B' id=some o->bn Ω' F.own id o)(hdom:∀id,B' id=none->Ω'.e id=none)
 (hinj:∀i j c d b o,Ω'.e i=some c->Ω'.e j=some d->occ c b o->occ d b o->i=j)
 (hp:∀b o,Ω'.pub b o->∃v,Ω'.w.cell? ⟨b,o,none⟩=some v)(hf:FrameOK F Ω') :
  Holds F ⟨bz s.T dst val,B'⟩ (a.put dst v) Ω':=by
 refine⟨fun i=>?_,?_,?_,hs,hdom,hinj,hp,fun id c hc=>let ⟨c1,h1,l1⟩:=h.keep id c hc;let ⟨c2,h2,l2⟩:=hx.e id c1 h1;⟨c2,h2,l1.trans l2⟩,hf⟩
 ·cases dst with
  |none=>exact(h.tmps i).ext hx
  |some d=>
   simp only[bz,Act.put];have hdn:=hd d rfl;by_cases hi:d=i
   ·subst hi;rw[O3 rfl];have:(a.tmps.setIfInBounds d v).getD d undef=v:=by simp[Oo,h.size,hdn]
    rw[this];exact hv
   ·rw[O0 hi];have:(a.tmps.setIfInBounds d v).getD i undef=a.tmps.getD i undef:=by simp[Oo,hi]
    rw[this];exact(h.tmps i).ext hx
 ·cases dst<;>simp[Act.put,h.size]
 ·cases dst<;>simp[Act.put,h.defers]
theorem Holds.pure{F:Fr}{s:AS}{a:Act}{Ω:Om}{dst:Option Nat}{val:AV}{v:Value}
 (h:Holds F s a Ω)(hv:V Ω val v)(hd:∀d,dst=some d->d<F.n):Holds F ⟨bz s.T dst val,s.B⟩ (a.put dst v) Ω:=
 h.step (Ext.refl Ω) hv hd h.slots h.dom h.inj h.pubok h.frame
theorem aI{w:World}{b:Nat}{o:Obj}(h:w.heap[b]?=some o):b<w.heap.size:=by
 rcases O5 b w.heap.size with k|k
 ·exact k
 ·rw[OM k]at h;cases h
theorem aC{w:World}{b o:Nat}{v:Value}(h:w.cell? ⟨b,o,none⟩=some v):b<w.heap.size:=World.block_lt_of_cell? w ⟨b,o,none⟩ h
theorem ai{w w':World}{b:Nat}(h:w'.heap[b]?=w.heap[b]?)(o:Nat):w'.cell? ⟨b,o,none⟩=w.cell? ⟨b,o,none⟩:=by simp[World.cell?,h]
theorem aK{w w':World}{b:Nat}(h:w'.heap[b]?=w.heap[b]?)(o:Nat):w'.frozen? ⟨b,o,none⟩=w.frozen? ⟨b,o,none⟩:=by simp[World.frozen?,h]
theorem aT{w w':World}{b:Nat}(h:w'.heap[b]?=w.heap[b]?):w'.shape? b=w.shape? b:=by simp[World.shape?,h]
theorem al{w:World}{b:Nat}{vs:Array Value}{ty:Nat}{fz:Nat×Nat}(h:w.heap[b]?=some (.cells vs ty fz))(o:Nat) :
  w.cell? ⟨b,o,none⟩=vs[o]?:=by
 simp[World.cell?,h]
theorem ez{w:World}{b:Nat}{vs:Array Value}{ty:Nat}(h:w.heap[b]?=some (.cells vs ty (0,0)))(o:Nat) :
  w.frozen? ⟨b,o,none⟩=false:=by
 simp[World.frozen?,h]
theorem Holds.blk{F:Fr}{s:AS}{a:Act}{Ω:Om}(h:Holds F s a Ω){id b o:Nat}{c:CObj}(hc:Ω.e id=some c)(hb:occ c b o):b<Ω.w.heap.size:=by
 cases hB:s.B id with
 |none=>rw[h.dom id hB]at hc;cases hc
 |some ob=>
  have hs:=h.slots id ob hB
  cases ob with
  |box x=>
   obtain⟨b',off,he,hh⟩:=hs;rw[he]at hc;simp only[Xs]at hc;subst hc;obtain⟨rfl,h1,h2⟩:=hb;have hj:o-off<(ae x).length:=by omega
   obtain⟨_,_,_,v,hv,_⟩:=hh (o-off) _ (NY hj);exact aC hv
  |tail τ n=>obtain⟨base,cap,he,_,_,_,hb'⟩:=hs;rw[he]at hc;simp only[Xs]at hc;subst hc;obtain⟨_,vs,ty,fz,hh,_⟩:=hb' b hb;exact aI hh
  |map κ τ m=>obtain⟨r,he,_,es,clock,hh,_⟩:=hs;rw[he]at hc;simp only[Xs]at hc;subst hc;have:b=r:=hb;subst this;exact aI hh
  |bld t u l=>obtain⟨b0,g,he,_,hh⟩:=hs;rw[he]at hc;simp only[Xs]at hc;subst hc;exact hh.lt hb
  |tailp τ n x=>
   obtain⟨b0,cap,he,_,_,_,⟨vs,ty,fz,hh,_⟩,_⟩:=hs;rw[he]at hc;simp only[Xs]at hc;subst hc;have:b0=b:=by simpa[occ]using hb
   subst this;exact aI hh
  |grow τ n xs=>obtain⟨base,cap,he,_,_,_,hb'⟩:=hs;rw[he]at hc;simp only[Xs]at hc;subst hc;obtain⟨_,⟨vs,ty,fz,hh,_⟩,_⟩:=hb' b hb;exact aI hh
def jV(Ω Ω':Om):CObj->Prop
 |.box b off len=>∀o,off<=o->o<off+len->Ω'.w.cell? ⟨b,o,none⟩=Ω.w.cell? ⟨b,o,none⟩/\Ω'.w.frozen? ⟨b,o,none⟩=Ω.w.frozen? ⟨b,o,none⟩/\(Ω'.pub b o->Ω.pub b o)
 |.tail _ base _=>∀b,base=some b->Ω'.w.heap[b]?=Ω.w.heap[b]?/\∀o,Ω'.pub b o->Ω.pub b o
 |.obj r=>Ω'.w.heap[r]?=Ω.w.heap[r]?
 |.bld b g=>∀b',(b'=b∨g=some b')->Ω'.w.heap[b']?=Ω.w.heap[b']?/\∀o,Ω'.pub b' o->Ω.pub b' o
theorem jV.of_blocks{Ω Ω':Om}{c:CObj}(h:∀b o,occ c b o->Ω'.w.heap[b]?=Ω.w.heap[b]?/\∀o,Ω'.pub b o->Ω.pub b o):jV Ω Ω' c:=by
 cases c with
 |box b off len=>intro o h1 h2;obtain⟨k1,k2⟩:=h b o ⟨rfl,h1,h2⟩;exact⟨ai k1 o,aK k1 o,k2 o⟩
 |tail n base cap=>exact fun b hb=>h b 0 hb
 |obj r=>exact(h r 0 rfl).1
 |bld b g=>exact fun b' hb=>h b' 0 hb
theorem MapOK.ext{Ω Ω':Om}(hx:Ext Ω Ω'){κ τ:Ty}{m:List (den κ×den τ)}{es:Array MapEntry}{clock:Nat}(h:MapOK Ω κ τ m es clock):MapOK Ω' κ τ m es clock:=
 ⟨h.size,fun i e x he hx'=>⟨(h.ent i e x he hx').1.ext hx,(h.ent i e x he hx').2.ext hx⟩,h.keys,h.born,h.rise,h.idx,h.top⟩
theorem bn.keep{Ω Ω':Om}{own:Nat->Nat->Prop}{id:Nat}{o:SObj}(h:bn Ω own id o)(hx:Ext Ω Ω')(he:Ω'.e id=Ω.e id)
 (hk:∀c,Ω.e id=some c->jV Ω Ω' c):bn Ω' own id o:=by
 cases o with
 |box c=>
  obtain⟨b,off,h1,h2⟩:=h;refine⟨b,off,by rw[he,h1],fun j c' hc=>?_⟩;obtain⟨q1,q2,q3,v,q4,q5⟩:=h2 j c' hc
  have hj:j<(ae c).length:=by
   rcases O5 j (ae c).length with k|k
   ·exact k
   ·rw[O2 k]at hc;cases hc
  obtain⟨k1,k2,k3⟩:=hk _ h1 (off+j) (by omega) (by omega);exact⟨q1,fun hp=>q2 (k3 hp),by rw[k2,q3],v,by rw[k1,q4],q5.ext hx⟩
 |tail τ n=>obtain⟨base,cap,h1,h2,h3,h4,h5⟩:=h;refine⟨base,cap,by rw[he,h1],h2,h3,h4,fun b hbb=>?_⟩;obtain⟨o1,vs,ty,fz,o2,of,o3,o4⟩:=h5 b hbb;obtain⟨k1,k2⟩:=hk _ h1 b hbb;exact⟨o1,vs,ty,fz,by rw[k1,o2],of,o3,fun o ho hp=>o4 o ho (k2 o hp)⟩
 |map κ τ m=>obtain⟨r,h1,h2,es,clock,h3,h4⟩:=h;have k1:Ω'.w.heap[r]?=Ω.w.heap[r]?:=hk _ h1;exact⟨r,by rw[he,h1],h2,es,clock,by rw[k1,h3],h4.ext hx⟩
 |bld t u l=>obtain⟨b,g,h1,h2,h3⟩:=h;exact⟨b,g,by rw[he,h1],fun b' hb o=>⟨(h2 b' hb o).1,fun hp=>(h2 b' hb o).2 ((hk _ h1 b' hb).2 o hp)⟩,h3.congr fun b' hb=>(hk _ h1 b' hb).1⟩
 |tailp τ n x=>obtain⟨b,cap,h1,h2,h3,h4,⟨vs,ty,fz,o2,of,o3⟩,h6,h7⟩:=h;obtain⟨k1,k2⟩:=hk _ h1 b rfl;refine⟨b,cap,by rw[he,h1],h2,h3,h4,⟨vs,ty,fz,by rw[k1,o2],of,o3⟩,fun o ho hp=>h6 o ho (k2 o hp),fun j c hc=>?_⟩;obtain⟨v,g1,g2⟩:=h7 j c hc;exact⟨v,by rw[ai k1,g1],g2.ext hx⟩
 |grow τ n xs=>obtain⟨base,cap,h1,h2,h3,h4,h5⟩:=h;refine⟨base,cap,by rw[he,h1],h2,h3,h4,fun b hbb=>?_⟩;obtain⟨o1,⟨vs,ty,fz,o2,of,o3⟩,h6,h7⟩:=h5 b hbb;obtain⟨k1,k2⟩:=hk _ h1 b hbb;refine⟨o1,⟨vs,ty,fz,by rw[k1,o2],of,o3⟩,fun o hp=>h6 o (k2 o hp),fun j c hc=>?_⟩;obtain⟨v,g1,g2⟩:=h7 j c hc;exact⟨v,by rw[ai k1,g1],g2.ext hx⟩
theorem Holds.drew{F:Fr}{s:AS}{a:Act}{Ω:Om}(h:Holds F s a Ω):Holds F s a ⟨Ω.e,Ω.w.drew,Ω.pub⟩:=by
 have hx:Ext Ω ⟨Ω.e,Ω.w.drew,Ω.pub⟩:=⟨fun _ c hc=>⟨c,hc,CLe.refl c⟩,fun _ _ p=>p,fun _ _ _=>rfl⟩
 exact⟨fun i=>(h.tmps i).ext hx,h.size,h.defers,fun id o ho=>(h.slots id o ho).keep hx rfl (fun _ _=>jV.of_blocks fun _ _ _=>⟨rfl,fun _ p=>p⟩),h.dom,h.inj,h.pubok,h.keep,
  ⟨h.frame.os,h.frame.tape,h.frame.output,h.frame.size,h.frame.block,h.frame.cell,h.frame.kind,h.frame.pub,h.frame.old,h.frame.pcell⟩⟩
def aD(P:Program):TI->TypeDesc->Bool
 |.int k,.int k'=>decide (k=k')
 |.bool,.bool=>true
 |.str,.string=>true
 |.slice e,.slice e'=>Nat.beq e e'
 |.ptr e,.pointer e'=>Nat.beq e e'
 |.map k e,.map k' e'=>Nat.beq k k'&&Nat.beq e e'
 |.strct _ fs,.struct fields=>
  (decide ((fields.toList.map fun f=>(f.offset,f.type))=fs)) && fields.toList.all fun f=>(match P.info? f.type with | some i=>!Nat.beq i.size 0 | none=>false) && !(f.name == "_")
 |.iface,.interface _=>true
 |.arr e n,.array n' e'=>Nat.beq e e'&&Nat.beq n n'
 |.other,d=>match d with|.struct _|.array ..|.interface _=>false|_=>true
 |_,_=>false
def Cq:Value->Bool
 |.agg _=>true
 |_=>false
structure TRok(P:Program)(t:Nat)(r:TR):Prop where
 info:∃i z,P.info? t=some i/\i.size=r.size/\i.bytes=r.bytes/\i.zero=some z/\z.cells.toList.map cm=r.zero
 zlen:r.zero.length=r.size
 bpos:0<r.size->0<r.bytes
 desc:∃d,P.underlying t=some d/\aD P r.ti d=true
 ty:∀τ,r.ty=some τ->ab τ=r.size/\KM τ=r.isAgg
 zagg:∀i z,P.info? t=some i->i.zero=some z->Cq z=r.isAgg
 eqs:∀fs,r.ti=.strct true fs->P.stoodInHeld t=false/\P.eqGuardType P.depth t=false
theorem TRok.pos{P:Program}{t:Nat}{r:TR}(h:TRok P t r){τ:Ty}(hτ:r.ty=some τ):0<r.size:=by rw[<-(h.ty τ hτ).1];exact jU τ
theorem TRok.bps{P:Program}{t:Nat}{r:TR}(h:TRok P t r){τ:Ty}(hτ:r.ty=some τ):0<r.bytes:=h.bpos (h.pos hτ)
def aR(P:Program)(tbl:List (Nat×TR)):Prop:=∀t r,aB tbl t=some r->TRok P t r
theorem FD(k:IntKind)(n:Int)(h:okC k n=true):k.min<=n/\n<=k.max:=by
 cases n with
 |ofNat m=>simp only[okC,Ru]at h;cases k<;>simp only[KN,IntKind.min,IntKind.max,IntKind.signed,IntKind.bits]at h⊢<;>constructor<;>simp<;>omega
 |negSucc m=>cases k<;>simp only[okC,EC,Ru,P1,OL,P4,KN,IntKind.min,IntKind.max,IntKind.signed,IntKind.bits]at h⊢<;>(try exact h.elim)<;>constructor<;>simp<;>omega
theorem eR{α:Type}:∀(l:List α)(n:Nat),mU l n=true->l.length<=n
 |[],_,_=>by simp
 |_::r,0,h=>by simp[mU]at h
 |_::r,n+1,h=>by simp only[mU]at h;have:=eR r n h;simp;omega
theorem bX{α:Type}:∀(l:List α)(n:Nat),ga l n=true->l.length=n
 |[],0,_=>rfl
 |[],n+1,h=>by simp[ga]at h
 |_::r,0,h=>by simp[ga]at h
 |_::r,n+1,h=>by simp only[ga]at h;simp[bX r n h]
theorem jI{α:Type}:∀(l:List α)(n:Nat),nth l n=l[n]?
 |[],n=>by simp[nth]
 |a::r,0=>rfl
 |a::r,n+1=>by simp[nth,jI r n]
theorem sw(Ω:Om)(v:Value):V Ω (cm v) v:=by
 unfold cm;split
 ·split
  ·rename_i k n h;obtain⟨h1,h2⟩:=FD k n h;exact .int k n h1 h2
  ·exact .undef _
 ·exact .bool _
 ·split
  ·rename_i s h;have hl:=eR _ _ h;have:=V.str (Ω:=Ω) s.data.toList (by unfold bj;omega);simpa using this
  ·exact .undef _
 ·exact .nils
 ·exact .nilp
 ·exact .nilif
 ·exact .nilm
 ·exact .undef _
theorem KV(Ω:Om)(v:Value):V Ω (oh v) v:=by
 unfold oh;split
 ·rename_i cs;refine V.of_agg (vs:=cs.toList) ⟨by simp,fun j c u hc hu=>?_⟩;rw[OD,hu]at hc;simp only[Pr,Xs]at hc;subst hc;exact sw Ω u
 ·exact sw Ω v
theorem sx(Ω:Om)(vs:List Value):VL Ω (vs.map cm) vs:=by refine⟨by simp,fun j c v hc hv=>?_⟩;rw[OD,hv]at hc;simp only[Pr,Xs]at hc;subst hc;exact sw Ω v
theorem b9{F:Fr}{s:AS}{a:Act}{Ω:Om}(h:Holds F s a Ω)(x:Operand):V Ω (opd s.T x) (a.eval x):=by
 cases x with|tmp t=>exact h.tmps t|const v=>exact KV Ω v|global g=>exact .undef _|func f=>exact .fn f [] [] rfl (fun j c v hc=>by simp at hc)
end Go.AL
end
noncomputable section
namespace Go.AL
variable [Tabs]
def bB:(Nat->Option SObj)->List (Nat×SObj)->(Nat->Option SObj)
 |B,[]=>B
 |B,(i,o)::r=>bB (fun j=>if i=j then some o else B j) r
def AS.put(s:AS)(d:Option Nat)(e:Eff):AS:=⟨bz s.T d e.val,bB s.B e.upd⟩
theorem aq{P:Program}{o:Oper}{a:Act}{w w':World}{next:Act->World->Prop}{Q:Exit->Act->World->Prop}{v:Value}
 (h:(execOp a.eval o).run P w=.ok (.value v) w')(hn:next (a.put o.dst v) w'):o.wp P a w next Q:=by
 unfold Oper.wp;rw[h];exact hn
theorem j0{P:Program}{o:Oper}{a:Act}{w w':World}{next:Act->World->Prop}{Q:Exit->Act->World->Prop}
 (h:(execOp a.eval o).run P w=.ok .skip w')(hn:next (a.put o.dst undef) w'):o.wp P a w next Q:=by
 unfold Oper.wp;rw[h];exact hn
theorem ay{P:Program}{w:World}{t:Nat}{d:TypeDesc}(h:P.underlying t=some d):(underlying t).run P w=.ok d w:=by simp[underlying,program,Sem.run,h]
theorem sy{P:Program}{w:World}{t:Nat}{i:TypeInfo}(h:P.info? t=some i):(typeInfo t).run P w=.ok i w:=by simp[typeInfo,program,Sem.run,h]
theorem cZ{P:Program}{w:World}{t:Nat}{i:TypeInfo}(h:P.info? t=some i):(sizeOf t).run P w=.ok i.size w:=by simp[sizeOf,sy h]
theorem eU{P:Program}{w:World}{t:Nat}{i:TypeInfo}{z:Value}(h:P.info? t=some i)(hz:i.zero=some z) :
  (zeroValue t).run P w=.ok z w:=by
 simp[zeroValue,sy h,hz]
structure TF(P:Program)(t:Nat)(r:TR) where
 size:∀w,(sizeOf t).run P w=.ok r.size w
 agg:∀w,(isAgg t).run P w=.ok r.isAgg w
theorem TRok.tf{P:Program}{t:Nat}{r:TR}(h:TRok P t r):TF P t r:=by obtain⟨i,z,h1,h2,h3,h4,h5⟩:=h.info;obtain⟨d,h6,h7⟩:=h.desc;refine⟨fun w=>by rw[cZ h1,h2],fun w=>?_⟩;simp only[isAgg,Ou,ay h6,O6];cases hti:r.ti<;>rw[hti]at h7<;>cases d<;>simp[aD]at h7<;>simp[TR.isAgg,hti]
theorem qk:∀(cs:List AV)(n:Nat)(ds:List AV),mV cs n=some ds->n<=cs.length/\ds=cs.drop n
 |cs,0,ds,h=>by simp[mV]at h;simp[h]
 |[],n+1,ds,h=>by simp[mV]at h
 |c::r,n+1,ds,h=>by simp only[mV]at h;obtain⟨h1,h2⟩:=qk r n ds h;exact⟨by simp;omega,by simp[h2]⟩
theorem ql:∀(cs:List AV)(n:Nat)(ds:List AV),qi cs n=some ds->n<=cs.length/\ds=cs.take n
 |cs,0,ds,h=>by simp[qi]at h;simp[<-h]
 |[],n+1,ds,h=>by simp[qi]at h
 |c::r,n+1,ds,h=>by
  simp only[qi]at h;split at h
  ·rename_i l hl;obtain⟨h1,h2⟩:=ql r n l hl;simp at h;exact⟨by simp;omega,by simp[<-h,h2]⟩
  ·simp at h
theorem iV{cs ds:List AV}{off n:Nat}(h:sub cs off n=some ds):off+n<=cs.length/\ds=(cs.drop off).take n:=by
 unfold sub at h;split at h
 ·rename_i l hl;obtain⟨h1,h2⟩:=qk _ _ _ hl;obtain⟨h3,h4⟩:=ql _ _ _ h;subst h2;simp at h3;exact⟨by omega,h4⟩
 ·simp at h
theorem VL.sub{Ω:Om}{cs ds:List AV}{vs:List Value}{off n:Nat}(h:VL Ω cs vs)(hs:sub cs off n=some ds) :
  VL Ω ds ((vs.drop off).take n):=by
 obtain⟨h1,h2⟩:=iV hs;subst h2;refine⟨by simp[h.1],fun j c v hc hv=>?_⟩;rw[Oy]at hc hv;split at hc
 ·rename_i hj;rw[O3 hj,P9]at hv;rw[P9]at hc;exact h.2 _ c v hc hv
 ·simp at hc
theorem z7{P:Program}{w:World}{t:Nat}{r:TR}(ht:TF P t r){cs:List AV}{x:AV}(ho:ep r cs=some x){Ω:Om}
 {b off:Nat}{vs:List Value}(hv:VL Ω cs vs)(hlen:cs.length=r.size)(hc:∀j v,vs[j]?=some v->w.cell? ⟨b,off+j,none⟩=some v) :
  ∃v,(loadVar t ⟨b,off,none⟩).run P w=.ok v w/\V Ω x v:=by
 unfold ep at ho;simp only[loadVar,Ou,ht.agg,O6];split at ho
 ·rename_i hagg;simp at ho;subst ho;refine⟨.agg vs.toArray,?_,V.of_agg hv⟩;rw[hagg];simp only[P1,Ou,ht.size,O6]
  have:=Rv (P:=P) w ⟨b,off,none⟩ vs (fun j v hj=>by
   have:=hc j v hj;unfold Addr.add;split
   ·rename_i h0;subst h0;simpa using this
   ·simpa using this)
  rw[<-hlen,hv.1,this];simp
 ·rename_i hagg;have hagg':r.isAgg=false:=by simpa using hagg
  rw[hagg']
  cases cs with
  |nil=>simp at ho
  |cons c cs=>
   cases cs with
   |cons _ _=>simp at ho
   |nil=>
    simp at ho;subst ho
    cases vs with
    |nil=>exact absurd hv.1 (by simp)
    |cons v vs=>
     cases vs with|cons _ _=>exact absurd hv.1 (by simp)|nil=>refine⟨v,?_,hv.head⟩;have:=hc 0 v rfl;simp only[PR]at this;simp[this]
theorem EM{Ω:Om}{w:World}{b:Nat}:∀(cs:List AV)(off:Nat),(∀(j:Nat)(c:AV),cs[j]?=some c->∃v,w.cell? ⟨b,off+j,none⟩=some v/\V Ω c v)->
  ∃vs,VL Ω cs vs/\∀j v,vs[j]?=some v->w.cell? ⟨b,off+j,none⟩=some v
 |[],_,_=>⟨[],.nil,fun j v h=>by simp at h⟩
 |c::cs,off,h=>by
  obtain⟨v,h1,h2⟩:=h 0 c rfl
  obtain⟨vs,h3,h4⟩:=EM (w:=w) (b:=b) cs (off+1) (fun j d hd=>by
   have:=h (j+1) d (by simpa using hd)
   rwa [show off+(j+1)=off+1+j by omega]at this)
  refine⟨v::vs,.cons h2 h3,fun j u hu=>?_⟩
  cases j with
  |zero=>simp at hu;subst hu;exact h1
  |succ j=>
   have:=h4 j u (by simpa using hu)
   rwa [show off+1+j=off+(j+1) by omega]at this
theorem FE(l:List AV):qi l l.length=some l:=by
 induction l with
 |nil=>rfl
 |cons a l ih=>simp[qi,ih]
theorem z8{l ds:List AV}{off:Nat}(h:mV l off=some ds):sub l off ds.length=some ds:=by simp[sub,h,FE]
theorem KW(cs:List AV)(n:Nat)(hn:n=cs.length):sub cs 0 n=some cs:=by subst hn;exact z8 (by cases cs<;>rfl)
theorem lr{n m:SN}{off:Nat}{y:SD n}{z:SD m}(h:jP n off y=some (.st m z)):sub (cells (.st n) y) off (ab (.st m))=some (cells (.st m) z):=by
 cases n with
 |shape=>cases h
 |item=>
  match off,h with
  |2,h=>simp only[jP,Xs]at h;cases h;rfl
 |change=>cases h
 |token=>cases h
 |fault=>cases h
 |term=>cases h
 |version=>cases h
 |bound=>
  match off,h with
  |1,h=>simp only[jP,Xs]at h;cases h;rfl
 |imp=>
  match off,h with
  |1,h=>simp only[jP,Xs]at h;cases h;rfl
 |decl=>
  match off,h with
  |2,h=>simp only[jP,Xs]at h;cases h;rfl
  |7,h=>simp only[jP,Xs]at h;cases h;rfl
 |modu=>cases h
 |bind=>
  match off,h with
  |2,h=>simp only[jP,Xs]at h;cases h;rfl
 |env=>cases h
 |dep=>cases h
 |val=>cases h
 |cell=>
  match off,h with
  |1,h=>simp only[jP,Xs]at h;cases h;rfl
 |op=>cases h
 |chunk=>cases h
 |usg=>cases h
 |nm=>cases h
 |stt=>cases h
 |par=>cases h
 |rstt=>cases h
 |thing=>cases h
 |func=>cases h
 |scope=>
  match off,h with
  |2,h=>simp only[jP,Xs]at h;cases h;rfl
 |plc=>cases h
 |exp=>
  match off,h with
  |1,h=>simp only[jP,Xs]at h;cases h;rfl
theorem qm{P:Program}{t:Nat}{r:TR}(hr:TRok P t r){c:AV}{off:Nat}{x:AV}(h:lf r c off=some x) :
  ∃ds z,sub (ae c) off r.size=some ds/\ep r ds=some z/\∀Ω v,V Ω z v->V Ω x v:=by
 have fr:∀{off:Nat},(match sub (ae c) off r.size with|some cs=>ep r cs|none=>none)=some x->
   ∃ds z,sub (ae c) off r.size=some ds/\ep r ds=some z/\∀Ω v,V Ω z v->V Ω x v:=by
  intro off h;split at h
  ·rename_i cs hcs;exact⟨cs,x,hcs,h,fun _ _ h=>h⟩
  ·simp at h
 unfold lf at h;split at h
 ·rename_i n y m hty;obtain⟨hw,ha⟩:=hr.ty _ hty;split at h
  ·rename_i hnm;subst hnm;simp only[Xs]at h;subst h;refine⟨cells (.st n) y,.agg (cells (.st n) y),KW _ _ (by show r.size=(cells (.st n) y).length;rw[aQ,hw]),?_,fun Ω v hv=>.st n y v hv⟩;have ha':r.isAgg=true:=by rw[<-ha];rfl
   simp[ep,ha']
  ·exact fr h
 ·rename_i n y o m hty;obtain⟨hw,ha⟩:=hr.ty _ hty;have ha':r.isAgg=true:=by rw[<-ha];rfl
  split at h
  ·rename_i m' z hz;split at h
   ·rename_i hm;subst hm;simp only[Xs]at h;subst h;have hs:=lr hz;rw[hw]at hs;exact⟨cells (.st _) z,.agg (cells (.st _) z),hs,by simp[ep,ha'],fun Ω v hv=>.st _ z v hv⟩
   ·simp at h
  ·exact fr h
 ·exact fr h
section
variable {P:Program} {C:Cfg} {F:Fr} {s:AS} {a:Act} {Ω:Om} {o:Oper} {eff:Eff} {next:Act->World->Prop} {Q:Exit->Act->World->Prop}
def cv(P:Program)(C:Cfg)(o:Oper):Prop:=
 ∀(F:Fr)(s:AS)(a:Act)(Ω:Om)(eff:Eff)(next:Act->World->Prop)(Q:Exit->Act->World->Prop),
  Holds F s a Ω->(∀d,o.dst=some d->d<F.n)->au C o s.T s.B=some eff->eff.asks->
  (∀a' Ω',Holds F (s.put o.dst eff) a' Ω'->next a' Ω'.w)->o.wp P a Ω.w next Q
theorem cv.pure(hv:∀(F:Fr)(s:AS)(a:Act)(Ω:Om)(eff:Eff),Holds F s a Ω->au C o s.T s.B=some eff->eff.asks->
  eff.upd=[]/\∃v,(execOp a.eval o).run P Ω.w=.ok (.value v) Ω.w/\V Ω eff.val v):cv P C o:=by
 intro F s a Ω eff next Q h hd he ho hn
 obtain⟨h1,v,h2,h3⟩:=hv F s a Ω eff h he ho;refine aq h2 (hn _ _ ?_);have:=h.pure h3 hd;simpa[AS.put,h1,bB]using this
theorem KX{x:Operand}(hop:o.op=.move x):cv P C o:=by refine cv.pure fun F s a Ω eff h he ho=>?_;simp only[au,hop,Xs]at he;subst he;exact⟨rfl,_,by simp[execOp,hop],b9 h x⟩
theorem FF{x:Operand}(hop:o.op=.assign x):cv P C o:=by refine cv.pure fun F s a Ω eff h he ho=>?_;simp only[au,hop,Xs]at he;subst he;exact⟨rfl,_,by simp[execOp,hop],b9 h x⟩
theorem V.bool_inv{Ω:Om}{b:Bool}{v:Value}(h:V Ω (.bool b) v):v=.bool b:=by cases h;rfl
theorem V.int_inv{Ω:Om}{k:IntKind}{n:Int}{v:Value}(h:V Ω (.int k n) v):v=.int k n/\k.min<=n/\n<=k.max:=by cases h;exact⟨rfl,by assumption,by assumption⟩
theorem V.str_inv{Ω:Om}{s:Str}{v:Value}(h:V Ω (.str s) v):v=.string ⟨s.toArray⟩/\s.length<=bj:=by cases h;exact⟨rfl,by assumption⟩
theorem V.nils_inv{Ω:Om}{v:Value}(h:V Ω .nils v):v=.slice none 0 0:=by cases h;rfl
theorem V.ptr_inv{Ω:Om}{i off:Nat}{v:Value}(h:V Ω (.ptr i off) v):∃b o len,v=.pointer (some ⟨b,o+off,none⟩)/\Ω.e i=some (.box b o len):=by cases h;exact⟨_,_,_,rfl,by assumption⟩
theorem KY{c x y:Operand}(hop:o.op=.pick c x y):cv P C o:=by
 refine cv.pure fun F s a Ω eff h he ho=>?_;simp only[au,hop]at he;split at he
 ·rename_i b hb;simp only[Xs]at he;subst he;have hc:=b9 h c;rw[hb]at hc;have hc:=hc.bool_inv;cases b
  ·exact⟨rfl,_,by simp[execOp,hop,hc,asBool],b9 h y⟩
  ·exact⟨rfl,_,by simp[execOp,hop,hc,asBool],b9 h x⟩
 ·simp at he
theorem iw(hT:aR P C.tbl){t:Nat}{r:TR}(hr:aB C.tbl t=some r){Ω:Om}{w:World}{c x:AV}{b o' off:Nat}(hl:lf r c off=some x)
 (hc:∀(j:Nat)(c':AV),(ae c)[j]?=some c'->∃v,w.cell? ⟨b,o'+j,none⟩=some v/\V Ω c' v) :
  ∃v,(loadVar t ⟨b,o'+off,none⟩).run P w=.ok v w/\V Ω x v:=by
 obtain⟨ds,z,h1,h2,h3⟩:=qm (hT t r hr) hl;obtain⟨vs,h4,h5⟩:=EM _ _ hc;obtain⟨s1,s2⟩:=iV h1
 obtain⟨v,h6,h7⟩:=z7 (w:=w) (hT t r hr).tf h2 (h4.sub h1) (b:=b) (off:=o'+off) (by rw[s2];simp;omega) (fun j u hj=>by
  rw[Oy]at hj;split at hj
  ·rw[P9]at hj;have:=h5 _ _ hj
   rwa [<-PO]at this
  ·simp at hj)
 exact⟨v,h6,h3 _ _ h7⟩
theorem iW(τ:Ty)(x:den τ):ae (inj τ x)=cells τ x:=by cases τ<;>rfl
theorem V.aptr_inv{Ω:Om}{i n w off:Nat}{v:Value}(h:V Ω (.aptr i n w off) v):∃b o len,v=.pointer (some ⟨b,o+(n *w+off),none⟩)/\Ω.e i=some (.box b o len):=by cases h;exact⟨_,_,_,rfl,by assumption⟩
theorem bn.row{Ω:Om}{own:Nat->Nat->Prop}{id b o len:Nat}{τ:Ty}{xs:List (den τ)}(h:bn Ω own id (.box (.row τ xs)))(he:Ω.e id=some (.box b o len))
 {i:Nat}(hi:i<xs.length)(j:Nat)(c:AV)(hc:(ae (inj τ (xs.getD i (dfl τ))))[j]?=some c) :
  (flat τ xs)[i *ab τ+j]?=some c/\own b (o+(i *ab τ+j))/\¬Ω.pub b (o+(i *ab τ+j))/\Ω.w.frozen? ⟨b,o+(i *ab τ+j),none⟩=false/\
   ∃v,Ω.w.cell? ⟨b,o+(i *ab τ+j),none⟩=some v/\V Ω c v:=by
 obtain⟨b',o',e1,e2⟩:=h;rw[he]at e1;simp only[Xs,CObj.box.injEq]at e1;obtain⟨rfl,rfl,rfl⟩:=e1;have hx:xs[i]?=some (xs.getD i (dfl τ)):=by simp[O4,hi]
 rw[iW]at hc;have hf:=gl τ xs i _ j c hx hc;exact⟨hf,e2 _ c hf⟩
theorem V.gsuf_inv{Ω:Om}{k s i w m:Nat}{v:Value}(h:V Ω (.gsuf k s i w m) v):∃b c,v=.slice (some ⟨b,i *w,none⟩) m c/\z6 Ω k s b:=by cases h;exact⟨_,_,rfl,by assumption⟩
theorem V.gptr_inv{Ω:Om}{k s i w off:Nat}{v:Value}(h:V Ω (.gptr k s i w off) v):∃b,v=.pointer (some ⟨b,i *w+off,none⟩)/\z6 Ω k s b:=by cases h;exact⟨_,rfl,by assumption⟩
theorem bn.grow_at{Ω:Om}{own:Nat->Nat->Prop}{k s s' b:Nat}{τ:Ty}{xs:List (den τ)}(h:bn Ω own k (.grow τ s' xs))(hp:z6 Ω k s b)(hs:s=s') :
  ∃cap,Ω.e k=some (.tail s' (some b) cap)/\xs.length<=cap/\cap<=bj/\(∀o,own b o)/\(∃vs ty fz,Ω.w.heap[b]?=some (.cells vs ty fz)/\fz.2=0/\cap *ab τ<=vs.size)/\(∀o,¬Ω.pub b o)/\
   ∀(j:Nat)(c:AV),(flat τ xs)[j]?=some c->∃v,Ω.w.cell? ⟨b,j,none⟩=some v/\V Ω c v:=by
 obtain⟨base,cap,e1,e2,e3,e4,e5⟩:=h;obtain⟨m,base',c',g1,g2,g3⟩:=hp;rw[e1]at g1;simp only[Xs,CObj.tail.injEq]at g1;obtain⟨rfl,rfl,rfl⟩:=g1;have hb:=g3 hs;obtain⟨q1,q2,q3,q4⟩:=e5 b hb;exact⟨cap,by rw[e1,hb],e2,e3,q1,q2,q3,q4⟩
theorem FH{τ:Ty}{xs:List (den τ)}{i:Nat}(hi:i<xs.length)(j:Nat)(c:AV)(hc:(ae (inj τ (xs.getD i (dfl τ))))[j]?=some c):(flat τ xs)[i *ab τ+j]?=some c:=by
 have hx:xs[i]?=some (xs.getD i (dfl τ)):=by simp[O4,hi]
 rw[iW]at hc;exact gl τ xs i _ j c hx hc
theorem KZ(hT:aR P C.tbl){t:Nat}{x:Operand}(hop:o.op=.load t x):cv P C o:=by
 refine cv.pure fun F s a Ω eff h he ho=>?_;simp only[au,hop]at he;split at he
 ·rename_i r hr;have hx:=b9 h x;split at he
  ·rename_i id off hopd;rw[hopd]at hx;obtain⟨b,o',len,hxv,hxb⟩:=hx.ptr_inv;split at he
   ·rename_i c hcs;simp only[Ov]at he;obtain⟨av,ho1,rfl⟩:=he;obtain⟨b',off',e1,e2⟩:=h.slots id _ hcs;rw[hxb]at e1;simp only[Xs,CObj.box.injEq]at e1;obtain⟨rfl,rfl,rfl⟩:=e1;obtain⟨v,hv1,hv2⟩:=iw (w:=Ω.w) hT hr ho1 (b:=b) (o':=o') (fun j c' hc=>(e2 j c' hc).2.2.2);exact⟨rfl,v,by simp[execOp,hop,hxv,Instr.loadAt,Instr.sureAddr,hv1],hv2⟩
   ·simp at he
  ·rename_i c hopd;rw[hopd]at hx;simp only[Ov]at he;obtain⟨av,ho1,rfl⟩:=he;generalize hxe:a.eval x=xv at hx
   cases hx with
   |cptr _ b off vals h1 h2=>obtain⟨v,hv1,hv2⟩:=iw (w:=Ω.w) hT hr ho1 (b:=b) (o':=off) (fun j c' hc=>⟨_,(h1 j c' hc).2,h2 j c' hc⟩);simp only[PR]at hv1;exact⟨rfl,v,by simp[execOp,hop,hxe,Instr.loadAt,Instr.sureAddr,hv1],hv2⟩
  ·rename_i id i w off hopd;rw[hopd]at hx;obtain⟨b,o',len,hxv,hxb⟩:=hx.aptr_inv;split at he
   ·rename_i τ xs hcs;unfold EG at he;split at he
    ·rename_i hw;subst hw;split at he
     ·rename_i av hav;simp only[Xs]at he;subst he;have hi:i<xs.length:=ho
      obtain⟨v,hv1,hv2⟩:=iw (w:=Ω.w) hT hr hav (b:=b) (o':=o'+i *ab τ) (fun j c' hc=>by
       obtain⟨_,_,_,_,v,h1,h2⟩:=(h.slots id _ hcs).row hxb hi j c' hc;exact⟨v,by rw[PO];exact h1,h2⟩)
      rw[PO]at hv1;exact⟨rfl,v,by simp[execOp,hop,hxv,Instr.loadAt,Instr.sureAddr,hv1],hv2⟩
     ·simp at he
    ·simp at he
   ·simp at he
  ·rename_i k s1 i w off hopd;rw[hopd]at hx;obtain⟨b,hxv,hxb⟩:=hx.gptr_inv;split at he
   ·rename_i τ s2 xs hcs;unfold Mh at he;split at he
    ·rename_i hw;subst hw;split at he
     ·rename_i av hav;simp only[Xs]at he;subst he;obtain⟨hs,hi⟩:s1=s2/\i<xs.length:=ho;obtain⟨cap,_,_,_,_,_,_,hcell⟩:=(h.slots k _ hcs).grow_at hxb hs;obtain⟨v,hv1,hv2⟩:=iw (w:=Ω.w) hT hr hav (b:=b) (o':=i *ab τ) (fun j c' hc=>hcell _ c' (FH hi j c' hc));exact⟨rfl,v,by simp[execOp,hop,hxv,Instr.loadAt,Instr.sureAddr,hv1],hv2⟩
     ·simp at he
    ·simp at he
   ·simp at he
  ·simp at he
 ·simp at he
theorem zc{x:Operand}(hop:o.op=.nilCheck x):cv P C o:=by
 refine cv.pure fun F s a Ω eff h he ho=>?_;simp only[au,hop]at he;have hx:=b9 h x;split at he
 ·rename_i id off hopd;simp only[Xs]at he;subst he;rw[hopd]at hx;obtain⟨b,o',len,hxv,hxb⟩:=hx.ptr_inv;exact⟨rfl,.pointer (some ⟨b,o'+off,none⟩),by simp[execOp,hop,hxv],.ptr id off b o' len hxb⟩
 ·rename_i cs hopd;simp only[Xs]at he;subst he;rw[hopd]at hx;generalize hxe:a.eval x=xv at hx;have hx':=hx
  cases hx with|cptr _ b off vals h1 h2=>exact⟨rfl,_,by simp[execOp,hop,hxe],hx'⟩
 ·rename_i id i w off hopd;simp only[Xs]at he;subst he;rw[hopd]at hx;obtain⟨b,o',len,hxv,hxb⟩:=hx.aptr_inv;rw[hxv]at hx;exact⟨rfl,_,by simp[execOp,hop,hxv],hx⟩
 ·rename_i k s1 i w off hopd;simp only[Xs]at he;subst he;rw[hopd]at hx;obtain⟨b,hxv,hxb⟩:=hx.gptr_inv;rw[hxv]at hx;exact⟨rfl,_,by simp[execOp,hop,hxv],hx⟩
 ·rename_i f cs hopd;simp only[Xs]at he;subst he;rw[hopd]at hx;generalize hxe:a.eval x=xv at hx;have hx':=hx
  cases hx with|fn f cs vs h1 h2=>exact⟨rfl,_,by simp[execOp,hop,hxe],hx'⟩
 ·rename_i n y hopd;simp only[Xs]at he;subst he;rw[hopd]at hx;have hs:y.isSome=true:=ho
  cases y with
  |none=>cases hs
  |some y=>
   generalize hxe:a.eval x=xv at hx
   cases hx with
   |ptSome n y v hv=>
    have hv':=hv
    cases hv with|cptr _ b off vals h1 h2=>exact⟨rfl,_,by simp[execOp,hop,hxe],hv'⟩
 ·simp at he
end
end Go.AL
end
noncomputable section
namespace Go.AL
variable [Tabs]
section
variable {P:Program} {C:Cfg} {o:Oper}
theorem jv(k:IntKind)(n:Int)(h1:k.min<=n)(h2:n<=k.max):k.wrap n=n:=by cases k<;>simp only[IntKind.min,IntKind.max,IntKind.signed,IntKind.bits,IntKind.wrap]at *<;> simp at *<;> omega
theorem py{op:BinOp}{t:Nat}{x y:Operand}{k k':IntKind}{a b:Int}:eqGuard op t x y (.int k a) (.int k' b)=pure ():=by unfold eqGuard;cases op<;>rfl
theorem FI{op:BinOp}{t:Nat}{x y:Operand}{a b:ByteArray}:eqGuard op t x y (.string a) (.string b)=pure ():=by unfold eqGuard;cases op<;>rfl
theorem Cr{op:BinOp}{t:Nat}{x y:Operand}{a b:Bool}:eqGuard op t x y (.bool a) (.bool b)=pure ():=by unfold eqGuard;cases op<;>rfl
theorem bS(k:IntKind)(n:Int):k.min<=k.wrap n/\k.wrap n<=k.max:=by cases k<;>simp only[IntKind.min,IntKind.max,IntKind.signed,IntKind.bits,IntKind.wrap]<;>simp<;>omega
theorem EN{Ω:Om}{op:BinOp}{t:Nat}{k:IntKind}{m n:Int}{eff:Eff}(he:xj op k m n=some eff)(ho:eff.asks){w:World}
 (hm:k.min<=m/\m<=k.max)(hn:k.min<=n/\n<=k.max) :
  eff.upd=[]/\∃v,(binOp op t (.int k m) (.int k n)).run P w=.ok v w/\V Ω eff.val v:=by
 have hmax:k.min<=0/\0<=k.max:=by cases k<;>simp[IntKind.min,IntKind.max,IntKind.signed,IntKind.bits]
 cases op<;>simp only[xj,Xs,reduceCtorEq]at he<;>subst he<;>refine⟨rfl,?_⟩
 case and=>exact⟨_,by simp[binOp,Op.intBits],.int k _ (bS k _).1 (bS k _).2⟩
 case or=>exact⟨_,by simp[binOp,Op.intBits],.int k _ (bS k _).1 (bS k _).2⟩
 case xor=>exact⟨_,by simp[binOp,Op.intBits],.int k _ (bS k _).1 (bS k _).2⟩
 case add=>
  obtain⟨h1,h2⟩:=ho;exact⟨_,by simp[binOp,Op.intArith,jv k _ h1 h2],.int k _ h1 h2⟩
 case sub=>
  obtain⟨h1,h2⟩:=ho;exact⟨_,by simp[binOp,Op.intArith,jv k _ h1 h2],.int k _ h1 h2⟩
 case mul=>
  obtain⟨h1,h2⟩:=ho;exact⟨_,by simp[binOp,Op.intArith,jv k _ h1 h2],.int k _ h1 h2⟩
 case quo=>
  obtain⟨h0,h1,h2⟩:=ho;exact⟨_,by simp[binOp,Op.intDiv,jv k _ h1 h2,h0],.int k _ h1 h2⟩
 case rem=>
  obtain⟨h0,h1,h2⟩:=ho;exact⟨_,by simp[binOp,Op.intDiv,h0],.int k _ h1 h2⟩
 case eql=>exact⟨.bool (decide (m=n)),by simp[binOp,Op.intCmp];by_cases h:m=n<;>simp[h],.bool _⟩
 case neq=>exact⟨.bool (!decide (m=n)),by simp[binOp,Op.intCmp];by_cases h:m=n<;>simp[h],.bool _⟩
 case lss=>exact⟨_,by simp[binOp,Op.intCmp],.bool _⟩
 case leq=>exact⟨_,by simp[binOp,Op.intCmp],.bool _⟩
 case gtr=>exact⟨_,by simp[binOp,Op.intCmp],.bool _⟩
 case geq=>exact⟨_,by simp[binOp,Op.intCmp],.bool _⟩
theorem Im{Ω:Om}{op:BinOp}{t:Nat}{k:IntKind}{m n:Int}{eff:Eff}(he:xk op k m n=some eff)(ho:eff.asks){w:World}
 (hm:k.min<=m/\m<=k.max)(hn:k.min<=n/\n<=k.max) :
  eff.upd=[]/\∃v,(binOp op t (.int k m) (.int k n)).run P w=.ok v w/\V Ω eff.val v:=by
 unfold xk at he;split at he
 ·cases he;exact⟨rfl,_,by simp[binOp,Op.intArith],.int k _ (bS k _).1 (bS k _).2⟩
 ·cases he;exact⟨rfl,_,by simp[binOp,Op.intArith],.int k _ (bS k _).1 (bS k _).2⟩
 ·cases he;exact⟨rfl,_,by simp[binOp,Op.intArith],.int k _ (bS k _).1 (bS k _).2⟩
 ·exact EN he ho hm hn
theorem vT(k:IntKind)(m:Int)(n:Nat)(hm:k.min<=m/\m<=k.max):k.min<=m.fdiv (2 ^ n)/\m.fdiv (2 ^ n)<=k.max:=by
 have hp:(1:Int)<=2 ^ n:=Int.pow_pos (by decide);have e:m.fdiv (2 ^ n)=m/(2 ^ n):=Int.fdiv_eq_ediv_of_nonneg m (by omega);have hmax:k.min<=0/\0<=k.max:=by cases k<;>simp[IntKind.min,IntKind.max,IntKind.signed,IntKind.bits]
 rw[e];rcases Int.lt_or_le m 0 with h|h
 ·have h1:m<=m/(2 ^ n):=(Int.le_ediv_iff_mul_le (by omega)).2 (by
   have h3:0<=(2:Int) ^ n-1:=by omega
   have h4:m *((2:Int) ^ n-1)<=0:=Int.mul_nonpos_of_nonpos_of_nonneg (show m<=0 by omega) h3;rw[Int.mul_sub,Int.mul_one]at h4;omega)
  have h2:m/(2 ^ n)<0:=Int.ediv_neg_of_neg_of_pos h (by omega);omega
 ·have h1:m/(2 ^ n)<=m:=Int.ediv_le_self _ h;have h2:0<=m/(2 ^ n):=Int.ediv_nonneg h (by omega);omega
theorem FJ{Ω:Om}{op:BinOp}{t:Nat}{k k':IntKind}{m n:Int}{eff:Eff}(he:Cf op k m n=some eff)(ho:eff.asks){w:World}
 (hm:k.min<=m/\m<=k.max) :
  eff.upd=[]/\∃v,(binOp op t (.int k m) (.int k' n)).run P w=.ok v w/\V Ω eff.val v:=by
 cases op<;>simp only[Cf,Xs,reduceCtorEq]at he<;>subst he<;>refine⟨rfl,?_⟩
 case shl=>
  have h0:¬n<0:=by have:0<=n:=ho;omega
  exact⟨_,by simp[binOp,Op.shift,h0],.int k _ (bS k _).1 (bS k _).2⟩
 case shr=>
  have h0:¬n<0:=by have:0<=n:=ho;omega
  exact⟨_,by simp[binOp,Op.shift,h0],.int k _ (vT k m _ hm).1 (vT k m _ hm).2⟩
theorem fP(l:List UInt8):(⟨l.toArray⟩:ByteArray).toList=l:=by
 have h:∀(b:ByteArray)(i:Nat)(r:List UInt8),ByteArray.toList.loop b i r=r.reverse++b.data.toList.drop i:=by
  intro b i r
  induction hk:b.size-i generalizing i r with
  |zero=>unfold ByteArray.toList.loop;rw[O0 (by omega)];have:b.data.toList.drop i=[]:=List.drop_eq_nil_of_le (by simp;exact Nat.le_of_sub_eq_zero hk);simp[this]
  |succ k ih=>
   unfold ByteArray.toList.loop;have hlt:i<b.size:=by omega
   rw[O3 hlt,ih (i+1) _ (by omega)];have hlt':i<b.data.toList.length:=by simpa using hlt
   rw[Qm hlt'];simp[ByteArray.get!,hlt]
 unfold ByteArray.toList;rw[h];simp
theorem oA(m n:Str):(m ==n)=decide (m=n):=by rw[Bool.eq_iff_iff];simp
theorem L0{Ω:Om}{op:BinOp}{t:Nat}{m n:Str}{eff:Eff}(he:Cg op m n=some eff)(ho:eff.asks){w:World} :
  eff.upd=[]/\∃v,(binOp op t (.string ⟨m.toArray⟩) (.string ⟨n.toArray⟩)).run P w=.ok v w/\V Ω eff.val v:=by
 cases op<;>simp only[Cg,Xs,reduceCtorEq]at he<;>subst he<;>refine⟨rfl,?_⟩
 case add=>
  have h1:m.length+n.length<=9223372036854775807:=ho;have e:(⟨m.toArray⟩:ByteArray)++⟨n.toArray⟩=⟨(m++n).toArray⟩:=by apply ByteArray.ext;simp
  refine⟨.string ⟨(m++n).toArray⟩,?_,.str (m++n) (by unfold bj;simp;omega)⟩;have e2:¬(((ByteArray.size ⟨m.toArray⟩+ByteArray.size ⟨n.toArray⟩:Nat):Int) > IntKind.i64.max):=by simp[ByteArray.size,IntKind.max,IntKind.signed,IntKind.bits];omega
  simp only[binOp,Op.stringOp];rw[O0 e2,e];rfl
 case eql=>exact⟨.bool (decide (m=n)),by simp[binOp,Op.stringOp,fP,oA],.bool _⟩
 case neq=>exact⟨.bool (!decide (m=n)),by simp[binOp,Op.stringOp,fP,oA],.bool _⟩
 case lss=>exact⟨.bool (Op.bytesLess m n),by simp[binOp,Op.stringOp,fP],.bool _⟩
 case leq=>exact⟨.bool (Op.bytesLess m n||decide (m=n)),by simp[binOp,Op.stringOp,fP,oA],.bool _⟩
 case gtr=>exact⟨.bool (!(Op.bytesLess m n||decide (m=n))),by simp[binOp,Op.stringOp,fP,oA],.bool _⟩
 case geq=>exact⟨.bool (!Op.bytesLess m n),by simp[binOp,Op.stringOp,fP],.bool _⟩
theorem pz(d:Nat){t:Nat}{m n:Bool}(hu:P.underlying t=some .bool){w:World} :
  (Op.equalIn (d+1) t (.bool m) (.bool n)).run P w=.ok (m ==n) w:=by
 unfold Op.equalIn;simp only[Ou,ay hu,O6];rfl
theorem lu{t:Nat}{m n:Bool}(hu:P.underlying t=some .bool){w:World} :
  (Op.equal t (.bool m) (.bool n)).run P w=.ok (m ==n) w:=pz 9999 hu
theorem Io{Ω:Om}{op:BinOp}{t:Nat}{m n:Bool}{eff:Eff}(hu:P.underlying t=some .bool)(he:xl op m n=some eff){w:World} :
  eff.upd=[]/\∃v,(binOp op t (.bool m) (.bool n)).run P w=.ok v w/\V Ω eff.val v:=by
 cases op<;>simp only[xl,Xs,reduceCtorEq]at he<;>subst he<;>refine⟨rfl,?_⟩
 case eql=>exact⟨.bool (m ==n),by simp[binOp,lu hu],.bool _⟩
 case neq=>exact⟨.bool (!(m ==n)),by simp[binOp,lu hu],.bool _⟩
theorem az(hT:aR P C.tbl){t:Nat}{r:TR}(hr:aB C.tbl t=some r){ti:TI}(hti:r.ti=ti) :
  ∃d,P.underlying t=some d/\aD P ti d=true:=by
 obtain⟨d,h1,h2⟩:=(hT t r hr).desc;exact⟨d,h1,by rw[<-hti];exact h2⟩
theorem oB(hT:aR P C.tbl){ft:Nat}{rt:TR}(hr:aB C.tbl ft=some rt){Ω:Om}{c d:AV}{u v:Value}{b:Bool}(h:s9 rt.ti c d=some b)
 (hu:V Ω c u)(hv:V Ω d v)(dep:Nat)(w:World):(Op.equalIn (dep+1) ft u v).run P w=.ok b w/\rt.isAgg=false:=by
 obtain⟨dd,hd1,hd2⟩:=az hT hr rfl;unfold TR.isAgg;generalize rt.ti=ti at h hd2;unfold s9 at h;split at h
 ·split at h
  ·rename_i j a k b' hjk;subst hjk;cases dd<;>simp[aD]at hd2;simp at h;subst h;rw[hu.int_inv.1,hv.int_inv.1];refine⟨?_,rfl⟩;rw[run_equalIn_int _ _ _ _ _ _ _ hd1];congr 1
  ·cases h
 ·cases dd<;>simp[aD]at hd2;simp at h;subst h;rw[hu.bool_inv,hv.bool_inv];exact⟨run_equalIn_bool' _ _ _ _ _ hd1,rfl⟩
 ·cases dd<;>simp[aD]at hd2;simp at h;subst h;rw[hu.str_inv.1,hv.str_inv.1];refine⟨?_,rfl⟩;rw[run_equalIn_string _ _ _ _ _ hd1,fP,fP,oA]
 ·cases h
theorem ku(hT:aR P C.tbl){Ω:Om}{cs ds:List AV}{xs ys:List Value}(hx:VL Ω cs xs)(hy:VL Ω ds ys)(dep:Nat)(w:World) :
  ∀(fields:List Field)(b:Bool),(∀f∈fields,f.name≠ "_")->Cl C (fields.map fun f=>(f.offset,f.type)) cs ds=some b->
   (Op.eqFields (dep+1) xs.toArray ys.toArray fields).run P w=.ok b w
 |[],b,_,h=>by simp[Cl]at h;subst h;simp[Op.eqFields]
 |f::r,b,hn,h=>by
  simp only[OJ,Cl]at h;split at h
  ·rename_i rt c d hr hc hd;split at h
   ·rename_i b1 b2 h1 h2;simp only[Xs]at h;subst h;rw[jI]at hc hd
    have getv:∀{cs:List AV} {vs:List Value} {c:AV},VL Ω cs vs->cs[f.offset]?=some c->∃v,vs[f.offset]?=some v/\V Ω c v:=by
     intro cs vs c hv hc
     have hl:f.offset<cs.length:=by
      rcases O5 f.offset cs.length with k|k
      ·exact k
      ·rw[O2 k]at hc;cases hc
     have hl':f.offset<vs.length:=by rw[<-hv.1];exact hl
     exact⟨vs[f.offset],NY hl',hv.2 _ c _ hc (NY hl')⟩
    obtain⟨u,hu1,hu2⟩:=getv hx hc;obtain⟨v,hv1,hv2⟩:=getv hy hd;obtain⟨k1,k2⟩:=oB hT hr h1 hu2 hv2 dep w;have hpart:∀{vs:List Value} {u:Value},vs[f.offset]?=some u->(part f.type vs.toArray f.offset).run P w=.ok u w:=by intro vs u hu;simp[part,(hT _ _ hr).tf.agg,k2,hu]
    have ih:=ku hT hx hy dep w r b2 (fun g hg=>hn g (by simp[hg])) h2;simp only[Op.eqFields,ne_eq,hn f (by simp),Qp,P1,Ou,hpart hu1,hpart hv1,O6,k1];cases b1
    ·simp
    ·simp[ih]
   ·cases h
  ·cases h
theorem zd(hT:aR P C.tbl){t sz by':Nat}{z:List AV}{ty:Option Ty}{fs:List (Nat×Nat)}(hr:aB C.tbl t=some ⟨.strct true fs,sz,by',z,ty⟩){Ω:Om}{cs ds:List AV}{xs ys:List Value}
 (hx:VL Ω cs xs)(hy:VL Ω ds ys)(dep:Nat)(w:World){b:Bool}(hb:Cl C fs cs ds=some b):(Op.equalIn (dep+2) t (.agg xs.toArray) (.agg ys.toArray)).run P w=.ok b w:=by
 obtain⟨d,hd1,hd2⟩:=az hT hr rfl;obtain⟨e1,e2⟩:=(hT _ _ hr).eqs fs rfl;cases d<;>try (simp[aD]at hd2;done)
 rename_i fields;simp only[aD,NZ,O1,O9]at hd2;obtain⟨hf1,hf2⟩:=hd2;have hfo:P.fieldsOf t=fields:=by simp[Program.fieldsOf,hd1]
 rw[Rw w (dep+1) t _ _ (by rw[hfo];exact hd1) e1,hfo];exact ku hT hx hy dep w fields.toList b (fun f hf=>by simpa using(hf2 f hf).2) (by rw[hf1];exact hb)
theorem kx(hT:aR P C.tbl){Ω:Om}{cs ds:List AV}{xs ys:List Value}(hx:VL Ω cs xs)(hy:VL Ω ds ys)(dep:Nat)(w:World) :
  ∀(fields:List Field)(b:Bool),(∀f∈fields,f.name≠ "_")->Fz C (fields.map fun f=>(f.offset,f.type)) cs ds=some b->
   (Op.eqFields (dep+2) xs.toArray ys.toArray fields).run P w=.ok b w
 |[],b,_,h=>by simp[Fz]at h;subst h;simp[Op.eqFields]
 |f::r,b,hn,h=>by
  simp only[OJ,Fz]at h;split at h
  ·rename_i gs n by' z ty hr
   split at h
   ·rename_i c d hc hd;split at h
    ·rename_i b1 b2 h1 h2;simp only[Xs]at h;subst h;have tf:=(hT _ _ hr).tf;have hag:(⟨.strct true gs,n,by',z,ty⟩:TR).isAgg=true:=rfl
     have hpart:∀{cs:List AV} {vs:List Value} {c:AV->Prop} {cc:List AV},VL Ω cs vs->sub cs f.offset n=some cc->(part f.type vs.toArray f.offset).run P w=.ok (.agg ((vs.drop f.offset).take n).toArray) w:=by
      intro cs vs c cc hv hs;have e:vs.toArray.extract f.offset (f.offset+n)=((vs.drop f.offset).take n).toArray:=by apply Pj;simp[QR]
      simp only[part,Ou,tf.agg,hag,P1,tf.size,O6,e];rfl
     have k1:=zd hT hr (hx.sub hc) (hy.sub hd) dep w h1;have ih:=kx hT hx hy dep w r b2 (fun g hg=>hn g (by simp[hg])) h2;simp only[Op.eqFields,ne_eq,hn f (by simp),Qp,P1,Ou,hpart (c:=fun _=>True) hx hc,hpart (c:=fun _=>True) hy hd,O6,k1];cases b1
     ·simp
     ·simp[ih]
    ·cases h
   ·cases h
  ·rename_i rt hne hr;split at h
   ·rename_i c d hc hd;split at h
    ·rename_i b1 b2 h1 h2;simp only[Xs]at h;subst h;rw[jI]at hc hd
     have getv:∀{cs:List AV} {vs:List Value} {c:AV},VL Ω cs vs->cs[f.offset]?=some c->∃v,vs[f.offset]?=some v/\V Ω c v:=by
      intro cs vs c hv hc
      have hl:f.offset<cs.length:=by
       rcases O5 f.offset cs.length with k|k
       ·exact k
       ·rw[O2 k]at hc;cases hc
      have hl':f.offset<vs.length:=by rw[<-hv.1];exact hl
      exact⟨vs[f.offset],NY hl',hv.2 _ c _ hc (NY hl')⟩
     obtain⟨u,hu1,hu2⟩:=getv hx hc;obtain⟨v,hv1,hv2⟩:=getv hy hd;obtain⟨k1,k2⟩:=oB hT hr h1 hu2 hv2 (dep+1) w;have hpart:∀{vs:List Value} {u:Value},vs[f.offset]?=some u->(part f.type vs.toArray f.offset).run P w=.ok u w:=by intro vs u hu;simp[part,(hT _ _ hr).tf.agg,k2,hu]
     have ih:=kx hT hx hy dep w r b2 (fun g hg=>hn g (by simp[hg])) h2;simp only[Op.eqFields,ne_eq,hn f (by simp),Qp,P1,Ou,hpart hu1,hpart hv1,O6,k1];cases b1
     ·simp
     ·simp[ih]
    ·cases h
   ·cases h
  ·cases h
theorem ky{Ω:Om}{x:AV}{cs:List AV}{v:Value}(h:V Ω x v)(hc:jS x=some cs):∃vs:List Value,v=.agg vs.toArray/\VL Ω cs vs:=by
 unfold jS at hc;split at hc
 ·simp at hc;subst hc;exact h.agg_inv
 ·simp at hc;subst hc
  cases h with|st _ _ v hv=>exact hv.agg_inv
 ·cases hc
theorem L1(hT:aR P C.tbl){o:Oper}{op:BinOp}{t t':Nat}{x y:Operand}(hop:o.op=.binOp op t x y t'){a:Act}{Ω:Om}{cs ds:List AV}{xs ys:List Value}
 (hx:VL Ω cs xs)(hxv:a.eval x=.agg xs.toArray)(hyl:VL Ω ds ys)(hyv:a.eval y=.agg ys.toArray){eff:Eff}(he:Cm C op t cs ds=some eff) :
  eff.upd=[]/\∃v,(execOp a.eval o).run P Ω.w=.ok (.value v) Ω.w/\V Ω eff.val v:=by
 unfold Cm at he;split at he
 ·rename_i fs sz by' z ty hr
  split at he
  ·rename_i b hb;obtain⟨d,hd1,hd2⟩:=az hT hr rfl;obtain⟨e1,e2⟩:=(hT _ _ hr).eqs fs rfl;cases d<;>try (simp[aD]at hd2;done)
   rename_i fields;simp only[aD,NZ,O1,O9]at hd2;obtain⟨hf1,hf2⟩:=hd2;have hfo:P.fieldsOf t=fields:=by simp[Program.fieldsOf,hd1]
   have hrun:(Op.equalIn 10000 t (.agg xs.toArray) (.agg ys.toArray)).run P Ω.w=.ok b Ω.w:=by rw[Rw Ω.w 9999 t _ _ (by rw[hfo];exact hd1) e1,hfo];exact kx hT hx hyl 9997 Ω.w fields.toList b (fun f hf=>by simpa using(hf2 f hf).2) (by rw[hf1];exact hb)
   have hg:=run_eqGuard_agg Ω.w op t x y xs.toArray ys.toArray e2;split at he
   ·simp only[Xs]at he;subst he;exact⟨rfl,.bool b,by simp[execOp,hop,hxv,hyv,hg,run_eql_struct,hrun],.bool _⟩
   ·simp only[Xs]at he;subst he;exact⟨rfl,.bool (!b),by simp[execOp,hop,hxv,hyv,hg,run_neq_struct,hrun],.bool _⟩
   ·simp at he
  ·simp at he
 ·simp at he
theorem Ip(hT:aR P C.tbl){op:BinOp}{t t':Nat}{x y:Operand}(hop:o.op=.binOp op t x y t'):cv P C o:=by
 refine cv.pure fun F s a Ω eff h he ho=>?_;simp only[au,hop]at he;have hx:=b9 h x;have hy:=b9 h y;split at he
 ·rename_i k m k' n hm hn;rw[hm]at hx;rw[hn]at hy;split at he
  ·obtain⟨hx1,hx2⟩:=hx.int_inv;obtain⟨hy1,hy2⟩:=hy.int_inv;obtain⟨h1,v,h2,h3⟩:=FJ (P:=P) (Ω:=Ω) (t:=t) (k':=k') (w:=Ω.w) he ho hx2;exact⟨h1,v,by simp[execOp,hop,hx1,hy1,py,h2],h3⟩
  split at he
  ·rename_i hk;subst hk;obtain⟨hx1,hx2⟩:=hx.int_inv;obtain⟨hy1,hy2⟩:=hy.int_inv;split at he
   ·obtain⟨h1,v,h2,h3⟩:=Im (P:=P) (Ω:=Ω) (t:=t) (w:=Ω.w) he ho hx2 hy2;exact⟨h1,v,by simp[execOp,hop,hx1,hy1,py,h2],h3⟩
   ·obtain⟨h1,v,h2,h3⟩:=EN (P:=P) (Ω:=Ω) (t:=t) (w:=Ω.w) he ho hx2 hy2;exact⟨h1,v,by simp[execOp,hop,hx1,hy1,py,h2],h3⟩
  ·simp at he
 ·rename_i m n hm hn;rw[hm]at hx;rw[hn]at hy;obtain⟨hx1,hx2⟩:=hx.str_inv;obtain⟨hy1,hy2⟩:=hy.str_inv;obtain⟨h1,v,h2,h3⟩:=L0 (P:=P) (Ω:=Ω) (t:=t) (w:=Ω.w) he ho;exact⟨h1,v,by simp[execOp,hop,hx1,hy1,FI,h2],h3⟩
 ·rename_i m n hm hn;rw[hm]at hx;rw[hn]at hy;have hx1:=hx.bool_inv;have hy1:=hy.bool_inv;split at he
  ·rename_i sz by' z ty hr
   obtain⟨d,hd1,hd2⟩:=az hT hr rfl;cases d<;>simp[aD]at hd2;obtain⟨h1,v,h2,h3⟩:=Io (P:=P) (Ω:=Ω) (t:=t) (w:=Ω.w) hd1 he;exact⟨h1,v,by simp[execOp,hop,hx1,hy1,Cr,h2],h3⟩
  ·simp at he
 ·rename_i n m hm hn;rw[hm]at hx;rw[hn]at hy;split at he
  ·rename_i e sz by' z ty hr
   obtain⟨d,hd1,hd2⟩:=az hT hr rfl;cases d<;>simp[aD]at hd2
   have key:∃p,a.eval x=.pointer p/\p.isNone=m.isNone/\p.isSome=m.isSome:=by
    generalize a.eval x=xv at hx
    cases hx with
    |ptNone _=>exact⟨none,rfl,rfl,rfl⟩
    |ptSome _ _ _ hv=>cases hv with|cptr _ b off vals _ _=>exact⟨_,rfl,rfl,rfl⟩
   obtain⟨p,hp,hp1,hp2⟩:=key;have hy1:a.eval y=.pointer none:=by generalize a.eval y=yv at hy;cases hy;rfl
   have hq:(Op.equal t (.pointer p) (.pointer none)).run P Ω.w=.ok p.isNone Ω.w:=by unfold Op.equal Op.maxDepth Op.equalIn;simp only[Ou,ay hd1,O6];cases p<;>rfl
   have hg:(eqGuard op t x y (.pointer p) (.pointer none)).run P Ω.w=.ok () Ω.w:=by cases op<;>rfl
   split at he
   ·simp only[Xs]at he;subst he;exact⟨rfl,.bool m.isNone,by rw[<-hp1];simp[execOp,hop,hp,hy1,hg,binOp,hq],.bool _⟩
   ·simp only[Xs]at he;subst he;exact⟨rfl,.bool m.isSome,by rw[<-hp2];simp[execOp,hop,hp,hy1,hg,binOp,hq],.bool _⟩
   ·simp at he
  ·simp at he
 ·rename_i ti ia hm hn;rw[hm]at hx;rw[hn]at hy;split at he
  ·rename_i sz by' z ty hr
   obtain⟨d,hd1,hd2⟩:=az hT hr rfl;cases d<;>simp[aD]at hd2;have key:∃v,a.eval x=.iface ti v:=by generalize a.eval x=xv at hx;cases hx;exact⟨_,rfl⟩
   obtain⟨xv,hp⟩:=key;have hy1:a.eval y=.nilIface:=by generalize a.eval y=yv at hy;cases hy;rfl
   have hq:(Op.equal t (.iface ti xv) .nilIface).run P Ω.w=.ok false Ω.w:=by unfold Op.equal Op.maxDepth Op.equalIn;simp only[Ou,ay hd1,O6];rfl
   have hg:(eqGuard op t x y (.iface ti xv) .nilIface).run P Ω.w=.ok () Ω.w:=by cases op<;>rfl
   split at he
   ·simp only[Xs]at he;subst he;exact⟨rfl,.bool false,by simp[execOp,hop,hp,hy1,hg,binOp,hq],.bool _⟩
   ·simp only[Xs]at he;subst he;exact⟨rfl,.bool true,by simp[execOp,hop,hp,hy1,hg,binOp,hq],.bool _⟩
   ·simp at he
  ·simp at he
 ·rename_i hm hn;rw[hm]at hx;rw[hn]at hy;split at he
  ·rename_i sz by' z ty yc hr
   obtain⟨d,hd1,hd2⟩:=az hT hr rfl;cases d<;>simp[aD]at hd2;have hp:a.eval x=.nilIface:=by generalize a.eval x=xv at hx;cases hx;rfl
   have hy1:a.eval (.const yc)=.nilIface:=by generalize a.eval (.const yc)=yv at hy;cases hy;rfl
   have hq:(Op.equal t .nilIface .nilIface).run P Ω.w=.ok true Ω.w:=by unfold Op.equal Op.maxDepth Op.equalIn;simp only[Ou,ay hd1,O6];rfl
   have hg:(eqGuard op t x (.const yc) .nilIface .nilIface).run P Ω.w=.ok () Ω.w:=by
    cases op<;>first|rfl|(simp[eqGuard])|(cases x<;>rfl)
   split at he
   ·simp only[Xs]at he;subst he;exact⟨rfl,.bool true,by simp[execOp,hop,hp,hy1,hg,binOp,hq],.bool _⟩
   ·simp only[Xs]at he;subst he;exact⟨rfl,.bool false,by simp[execOp,hop,hp,hy1,hg,binOp,hq],.bool _⟩
   ·simp at he
  ·simp at he
 ·rename_i hm hn;rw[hm]at hx;rw[hn]at hy;split at he
  ·rename_i kt e sz by' z ty yc hr
   obtain⟨d,hd1,hd2⟩:=az hT hr rfl;cases d<;>simp[aD]at hd2;have hy1:a.eval (.const yc)=.map none:=by generalize a.eval (.const yc)=yv at hy;cases hy;rfl
   have hq:∀p,(Op.equal t (.map p) (.map none)).run P Ω.w=.ok p.isNone Ω.w:=by intro p;unfold Op.equal Op.maxDepth Op.equalIn;simp only[Ou,ay hd1,O6];cases p<;>rfl
   have hg:∀p,(eqGuard op t x (.const yc) (.map p) (.map none)).run P Ω.w=.ok () Ω.w:=by intro p;cases op<;>first|rfl|(simp[eqGuard])|(cases x<;>rfl)
   obtain⟨p,hp,hpn⟩:∃p,a.eval x=.map p/\p.isNone=true:=by generalize a.eval x=xv at hx;cases hx;exact⟨_,rfl,rfl⟩
   split at he
   ·simp only[Xs]at he;subst he;exact⟨rfl,.bool p.isNone,by simp[execOp,hop,hp,hy1,hg,binOp,hq],by rw[hpn];exact .bool _⟩
   ·simp only[Xs]at he;subst he;exact⟨rfl,.bool (!p.isNone),by simp[execOp,hop,hp,hy1,hg,binOp,hq],by rw[hpn];exact .bool _⟩
   ·simp at he
  ·simp at he
 ·rename_i mi hm hn;rw[hm]at hx;rw[hn]at hy;split at he
  ·rename_i kt e sz by' z ty yc hr
   obtain⟨d,hd1,hd2⟩:=az hT hr rfl;cases d<;>simp[aD]at hd2;have hy1:a.eval (.const yc)=.map none:=by generalize a.eval (.const yc)=yv at hy;cases hy;rfl
   have hq:∀p,(Op.equal t (.map p) (.map none)).run P Ω.w=.ok p.isNone Ω.w:=by intro p;unfold Op.equal Op.maxDepth Op.equalIn;simp only[Ou,ay hd1,O6];cases p<;>rfl
   have hg:∀p,(eqGuard op t x (.const yc) (.map p) (.map none)).run P Ω.w=.ok () Ω.w:=by intro p;cases op<;>first|rfl|(simp[eqGuard])|(cases x<;>rfl)
   obtain⟨p,hp,hpn⟩:∃p,a.eval x=.map p/\p.isNone=false:=by generalize a.eval x=xv at hx;cases hx;exact⟨_,rfl,rfl⟩
   split at he
   ·simp only[Xs]at he;subst he;exact⟨rfl,.bool p.isNone,by simp[execOp,hop,hp,hy1,hg,binOp,hq],by rw[hpn];exact .bool _⟩
   ·simp only[Xs]at he;subst he;exact⟨rfl,.bool (!p.isNone),by simp[execOp,hop,hp,hy1,hg,binOp,hq],by rw[hpn];exact .bool _⟩
   ·simp at he
  ·simp at he
 ·rename_i hm hn;rw[hm]at hx;rw[hn]at hy;split at he
  ·rename_i e sz by' z ty yc hr
   obtain⟨d,hd1,hd2⟩:=az hT hr rfl;cases d<;>simp[aD]at hd2;have hy1:a.eval (.const yc)=.slice none 0 0:=by generalize a.eval (.const yc)=yv at hy;cases hy;rfl
   have hq:∀p n c,(Op.equal t (.slice p n c) (.slice none 0 0)).run P Ω.w=.ok p.isNone Ω.w:=by intro p n c;unfold Op.equal Op.maxDepth Op.equalIn;simp only[Ou,ay hd1,O6];cases p<;>rfl
   have hg:∀p n c,(eqGuard op t x (.const yc) (.slice p n c) (.slice none 0 0)).run P Ω.w=.ok () Ω.w:=by intro p n c;cases op<;>first|rfl|(simp[eqGuard])|(cases x<;>rfl)
   have hp:a.eval x=.slice none 0 0:=by generalize a.eval x=xv at hx;cases hx;rfl
   split at he
   ·simp only[Xs]at he;subst he;exact⟨rfl,.bool true,by simp[execOp,hop,hp,hy1,hg,binOp,hq],.bool _⟩
   ·simp only[Xs]at he;subst he;exact⟨rfl,.bool false,by simp[execOp,hop,hp,hy1,hg,binOp,hq],.bool _⟩
   ·simp at he
  ·simp at he
 ·rename_i τ ys o2 hm hn;rw[hm]at hx;rw[hn]at hy;split at he
  ·rename_i e sz by' z ty yc hr
   obtain⟨d,hd1,hd2⟩:=az hT hr rfl;cases d<;>simp[aD]at hd2;have hy1:a.eval (.const yc)=.slice none 0 0:=by generalize a.eval (.const yc)=yv at hy;cases hy;rfl
   have hq:∀p n c,(Op.equal t (.slice p n c) (.slice none 0 0)).run P Ω.w=.ok p.isNone Ω.w:=by intro p n c;unfold Op.equal Op.maxDepth Op.equalIn;simp only[Ou,ay hd1,O6];cases p<;>rfl
   have hg:∀p n c,(eqGuard op t x (.const yc) (.slice p n c) (.slice none 0 0)).run P Ω.w=.ok () Ω.w:=by intro p n c;cases op<;>first|rfl|(simp[eqGuard])|(cases x<;>rfl)
   have key:ys.length≠0->∃q n c,a.eval x=.slice (some q) n c:=by
    intro hne;generalize a.eval x=xv at hx
    cases hx with|lstNil _ _ _=>exact absurd rfl hne|lstVoid _ _=>exact absurd rfl hne|lst _ _ _ b off cap vals h1 h2 tok hc hv=>exact⟨_,_,_,rfl⟩
   split at he
   ·simp only[Xs]at he;subst he;obtain⟨q,n,c,hp⟩:=key ho;exact⟨rfl,.bool false,by simp[execOp,hop,hp,hy1,hg,binOp,hq],.bool _⟩
   ·simp only[Xs]at he;subst he;obtain⟨q,n,c,hp⟩:=key ho;exact⟨rfl,.bool true,by simp[execOp,hop,hp,hy1,hg,binOp,hq],.bool _⟩
   ·simp at he
  ·simp at he
 ·split at he
  ·rename_i cs ds hc hd;obtain⟨xs,hxv,hxl⟩:=ky hx hc;obtain⟨ys,hyv,hyl⟩:=ky hy hd;exact L1 hT hop hxl hxv hyl hyv he
  ·simp at he
theorem L2{op:UnOp}{t:Nat}{x:Operand}(hop:o.op=.unOp op t x):cv P C o:=by
 refine cv.pure fun F s a Ω eff h he ho=>?_;simp only[au,hop]at he;have hx:=b9 h x;split at he
 ·rename_i b hb;rw[hb]at hx;simp only[Xs]at he;subst he;exact⟨rfl,.bool (!b),by simp[execOp,hop,hx.bool_inv,Op.unary],.bool _⟩
 ·rename_i k n hn;rw[hn]at hx;simp only[Xs]at he;subst he;obtain⟨h1,h2⟩:=ho;have e:=jv k _ h1 h2;exact⟨rfl,.int k (0-n),by simp only[execOp,hop,hx.int_inv.1,Op.unary,Op.intArith,e];simp,.int k _ h1 h2⟩
 ·simp at he
theorem jw{w:World}{b off:Nat}{f:Field}{i:TypeInfo}(hi:P.info? f.type=some i)(h0:i.size≠0) :
  (fieldPlace ⟨b,off,none⟩ f).run P w=.ok ⟨b,off+f.offset,none⟩ w:=by
 simp only[fieldPlace,Ou,cZ hi,O6];rw[O0 h0];simp[Addr.add]
theorem lv(hT:aR P C.tbl){t:Nat}{r:TR}(hr:aB C.tbl t=some r){f off ft:Nat}(hf:rC r f=some (off,ft)) :
  ∃fields fd i,P.underlying t=some (.struct fields)/\fields[f]?=some fd/\fd.offset=off/\fd.type=ft/\P.info? ft=some i/\i.size≠0:=by
 unfold rC at hf;split at hf
 ·rename_i fs hti;obtain⟨d,hd1,hd2⟩:=az hT hr hti;cases d<;>simp[aD]at hd2;rename_i fields;obtain⟨h1,h2⟩:=hd2;rw[jI,<-h1]at hf;simp only[OD,Oh,Ov]at hf;obtain⟨fd,hfd,e⟩:=hf;simp at e;have hm:fd∈fields:=Array.mem_of_getElem? hfd;obtain⟨j,hj,hje⟩:=Qj.1 hm;have:=h2 j hj;rw[hje]at this;split at this
  ·rename_i i hi;exact⟨fields,fd,i,hd1,hfd,e.1,e.2,by rw[<-e.2];exact hi,fun h0=>by simp[h0]at this⟩
  ·simp at this
 ·simp at hf
theorem xy(hT:aR P C.tbl){t f:Nat}{x:Operand}(hop:o.op=.fieldAddr t x f):cv P C o:=by
 refine cv.pure fun F s a Ω eff h he ho=>?_;simp only[au,hop]at he;have hx:=b9 h x;split at he
 ·rename_i r hr;split at he
  ·rename_i off ft id o' hf hopd;simp only[Xs]at he;subst he;rw[hopd]at hx;obtain⟨b,bo,len,hxv,hxb⟩:=hx.ptr_inv;obtain⟨fields,fd,i,h1,h2,h3,h4,h5,h6⟩:=lv hT hr hf;refine⟨rfl,.pointer (some ⟨b,bo+o'+off,none⟩),?_,?_⟩
   ·simp[execOp,hop,hxv,Instr.fieldAt,ay h1,h2,Instr.sureAddr,jw (P:=P) (w:=Ω.w) (b:=b) (off:=bo+o') (f:=fd) (by rw[h4];exact h5) h6,h3]
   ·have:=V.ptr (Ω:=Ω) id (o'+off) b bo len hxb
    rwa [<-PO]at this
  ·rename_i off ft id n w o' hf hopd;simp only[Xs]at he;subst he;rw[hopd]at hx;obtain⟨b,bo,len,hxv,hxb⟩:=hx.aptr_inv;obtain⟨fields,fd,i,h1,h2,h3,h4,h5,h6⟩:=lv hT hr hf;refine⟨rfl,.pointer (some ⟨b,bo+(n *w+o')+off,none⟩),?_,?_⟩
   ·simp[execOp,hop,hxv,Instr.fieldAt,ay h1,h2,Instr.sureAddr,jw (P:=P) (w:=Ω.w) (b:=b) (off:=bo+(n *w+o')) (f:=fd) (by rw[h4];exact h5) h6,h3]
   ·have:=V.aptr (Ω:=Ω) id n w (o'+off) b bo len hxb;have e:bo+(n *w+o')+off=bo+(n *w+(o'+off)):=by omega
    rw[e];exact this
  ·rename_i off ft k s1 n w o' hf hopd;simp only[Xs]at he;subst he;rw[hopd]at hx;obtain⟨b,hxv,hxb⟩:=hx.gptr_inv;obtain⟨fields,fd,i,h1,h2,h3,h4,h5,h6⟩:=lv hT hr hf;refine⟨rfl,.pointer (some ⟨b,n *w+o'+off,none⟩),?_,?_⟩
   ·simp[execOp,hop,hxv,Instr.fieldAt,ay h1,h2,Instr.sureAddr,jw (P:=P) (w:=Ω.w) (b:=b) (off:=n *w+o') (f:=fd) (by rw[h4];exact h5) h6,h3]
   ·have:=V.gptr (Ω:=Ω) k s1 n w (o'+off) b hxb;have e:n *w+o'+off=n *w+(o'+off):=by omega
    rw[e];exact this
  ·rename_i off ft c hf hopd;rw[hopd]at hx;obtain⟨fields,fd,i,h1,h2,h3,h4,h5,h6⟩:=lv hT hr hf
   have fr:∀{c':AV},V Ω (.cptr c) (a.eval x)->(∃n,(ae c').length<=n/\sub (ae c) off (ae c').length=some (ae c'))->
     eff=.pure (.cptr c')->eff.upd=[]/\∃v,(execOp a.eval o).run P Ω.w=.ok (.value v) Ω.w/\V Ω eff.val v:=by
    intro c' hx hs he;obtain⟨_,_,hs⟩:=hs;subst he;obtain⟨s1,s2⟩:=iV hs;generalize hxe:a.eval x=xv at hx
    cases hx with
    |cptr _ b o' vals k1 k2=>
     refine⟨rfl,.pointer (some ⟨b,o'+off,none⟩),?_,?_⟩
     ·simp[execOp,hop,hxe,Instr.fieldAt,ay h1,h2,Instr.sureAddr,jw (P:=P) (w:=Ω.w) (b:=b) (off:=o') (f:=fd) (by rw[h4];exact h5) h6,h3]
     ·simp only[Eff.pure]
      have key:∀(j:Nat)(d:AV),(ae c')[j]?=some d->(ae c)[off+j]?=some d:=by
       intro j d hd;rw[s2,Oy]at hd;split at hd
       ·rwa [P9]at hd
       ·cases hd
      refine .cptr _ b _ (fun j=>vals (off+j)) (fun j d hd=>?_) (fun j d hd=>k2 _ _ (key j d hd));have:=k1 _ _ (key j d hd)
      rwa [<-PO]at this
   have drops:∀{c1:AV} {r1:List AV},mV (ae c) off=some (c1::r1)->∃n,(ae (.agg (c1::r1))).length<=n/\sub (ae c) off (ae (.agg (c1::r1))).length=some (ae (.agg (c1::r1))):=by intro c1 r1 hdr;exact⟨_,Od _,z8 hdr⟩
   split at he
   ·rename_i n y m hrt hft;split at he
    ·rename_i m' z hz;split at he
     ·rename_i hm;simp only[Xs]at he;refine fr hx ⟨_,Od _,?_⟩ he.symm;have hs:=lr hz;rw[<-aQ]at hs;exact hs
     ·simp at he
    ·split at he
     ·rename_i hdr;simp only[Xs]at he;exact fr hx (drops hdr) he.symm
     ·simp at he
   ·split at he
    ·rename_i hdr;simp only[Xs]at he;exact fr hx (drops hdr) he.symm
    ·simp at he
  ·simp at he
 ·simp at he
theorem Iq{w:World}{t:Nat}{r:TR}(ht:TF P t r){cs ds:List AV}{x:AV}{off:Nat}{Ω:Om}{vs:List Value}(hv:VL Ω cs vs)
 (hs:sub cs off r.size=some ds)(ho:ep r ds=some x):∃v,(part t vs.toArray off).run P w=.ok v w/\V Ω x v:=by
 have hd:=hv.sub hs;obtain⟨s1,s2⟩:=iV hs;unfold ep at ho;simp only[part,Ou,ht.agg,O6];split at ho
 ·rename_i hagg;simp at ho;subst ho;rw[hagg];simp only[P1,Ou,ht.size,O6];refine⟨_,rfl,?_⟩;have e:vs.toArray.extract off (off+r.size)=((vs.drop off).take r.size).toArray:=by apply Pj;simp[QR]
  rw[e];exact V.of_agg hd
 ·rename_i hagg;have hagg':r.isAgg=false:=by simpa using hagg
  rw[hagg'];split at ho
  ·rename_i c;simp at ho;subst ho;have hl:=hd.1;generalize hds:(vs.drop off).take r.size=us at hd hl
   cases us with
   |nil=>simp at hl
   |cons v us=>
    cases us with
    |cons _ _=>simp at hl
    |nil=>
     have hv0:vs[off]?=some v:=by
      have e1:((vs.drop off).take r.size)[0]?=some v:=by rw[hds];rfl
      rw[Oy]at e1;split at e1
      ·rw[P9]at e1;simpa using e1
      ·simp at e1
     exact⟨v,by simp[hv0],hd.head⟩
  ·simp at ho
theorem Ir(hT:aR P C.tbl){t f:Nat}{x:Operand}(hop:o.op=.field t x f):cv P C o:=by
 refine cv.pure fun F s a Ω eff h he ho=>?_;simp only[au,hop]at he;have hx:=b9 h x;split at he
 ·rename_i r hr;split at he
  ·rename_i off ft hf;obtain⟨fields,fd,i,h1,h2,h3,h4,h5,h6⟩:=lv hT hr hf
   have go:∀{rt:TR} {c:AV} {vs:List Value},aB C.tbl ft=some rt->a.eval x=.agg vs.toArray->VL Ω (ae c) vs->(lf rt c off).map Eff.pure=some eff->
     eff.upd=[]/\∃v,(execOp a.eval o).run P Ω.w=.ok (.value v) Ω.w/\V Ω eff.val v:=by
    intro rt c vs hrt hxv hvl he;simp only[Ov]at he;obtain⟨av,ho1,rfl⟩:=he;obtain⟨ds,z,q1,q2,q3⟩:=qm (hT ft rt hrt) ho1;obtain⟨v,hv1,hv2⟩:=Iq (P:=P) (w:=Ω.w) (hT ft rt hrt).tf hvl q1 q2;exact⟨rfl,v,by simp[execOp,hop,hxv,Instr.field,ay h1,h2,asAgg,h4,h3,hv1],q3 _ _ hv2⟩
   split at he
   ·rename_i rt cs hrt hopd;rw[hopd]at hx;obtain⟨vs,hxv,hvl⟩:=hx.agg_inv;exact go (c:=.agg cs) hrt hxv hvl he
   ·rename_i rt n y hrt hopd;rw[hopd]at hx;split at he
    ·generalize hxe:a.eval x=xv at hx
     cases hx with
     |st _ _ _ hx=>obtain⟨vs,hxv,hvl⟩:=hx.agg_inv;exact go (c:=.st n y) hrt (by rw[hxe,hxv]) hvl he
    ·simp at he
   ·simp at he
  ·simp at he
 ·simp at he
end
end Go.AL
end
noncomputable section
namespace Go.AL
variable [Tabs]
section
variable {P:Program} {C:Cfg} {o:Oper}
theorem gm{τ σ:Ty}{xs:List (den τ)}{ys:List (den σ)}(h:fy τ σ xs=some ys):∃e:τ=σ,e ▸ xs=ys:=by
 unfold fy at h;split at h
 ·rename_i e;simp at h;exact⟨e,h⟩
 ·simp at h
theorem eV{k:IntKind}{n:Int}:asIntOf (.int k n)=pure (k,n):=rfl
theorem V.lst_inv{Ω:Om}{τ:Ty}{xs:List (den τ)}{o:Option Nat}{v:Value}(h:V Ω (.lst τ xs o) v) :
  (xs=[]/\v=.slice none 0 0/\iu Ω o 0 v)∨(xs=[]/\o=none/\∃a,v=.slice (some a) 0 0)∨
  ∃b off cap,∃vals:Nat->Nat->Value,v=.slice (some ⟨b,off,none⟩) xs.length cap/\xs.length<=cap/\cap<=bj/\iu Ω o xs.length v/\
   (∀(i:Nat)(x:den τ),xs[i]?=some x->∀(j:Nat)(c:AV),(cells τ x)[j]?=some c->
    Ω.pub b (off+(i *ab τ+j))/\Ω.w.cell? ⟨b,off+(i *ab τ+j),none⟩=some (vals i j))/\
   (∀(i:Nat)(x:den τ),xs[i]?=some x->∀(j:Nat)(c:AV),(cells τ x)[j]?=some c->V Ω c (vals i j)):=by
 cases h with|lstNil _ _ ht=>exact Or.inl ⟨rfl,rfl,ht⟩|lstVoid _ a=>exact Or.inr (Or.inl ⟨rfl,rfl,a,rfl⟩)|lst _ _ _ b off cap vals h1 h2 h3 h4 h5=>exact Or.inr (Or.inr ⟨b,off,cap,vals,rfl,h1,h2,h3,h4,h5⟩)
theorem V.elem{Ω:Om}{τ:Ty}{xs:List (den τ)}{b off:Nat}{vals:Nat->Nat->Value}(i:Nat)(hi:i<xs.length)
 (h4:∀(i:Nat)(x:den τ),xs[i]?=some x->∀(j:Nat)(c:AV),(cells τ x)[j]?=some c->
    Ω.pub b (off+(i *ab τ+j))/\Ω.w.cell? ⟨b,off+(i *ab τ+j),none⟩=some (vals i j))
 (h5:∀(i:Nat)(x:den τ),xs[i]?=some x->∀(j:Nat)(c:AV),(cells τ x)[j]?=some c->V Ω c (vals i j))(d:den τ) :
  V Ω (.cptr (inj τ (xs.getD i d))) (.pointer (some ⟨b,off+i *ab τ,none⟩)):=by
 have e:xs[i]?=some (xs.getD i d):=by simp[O4,hi]
 refine .cptr _ b _ (fun j=>vals i j) (fun j c hc=>?_) (fun j c hc=>h5 i _ e j c (by rwa [iW]at hc));rw[iW]at hc;have:=h4 i _ e j c hc;rw[PO];exact this
theorem xz(hT:aR P C.tbl){t:Nat}{x y:Operand}(hop:o.op=.indexAddr t x y):cv P C o:=by
 refine cv.pure fun F s a Ω eff h he ho=>?_;simp only[au,hop]at he;have hx:=b9 h x;have hy:=b9 h y;split at he
 ·rename_i e sz by' z ty τ xs o' k n hr hopx hopy
  rw[hopx]at hx;rw[hopy]at hy;split at he
  ·rename_i re hre;split at he
   ·rename_i hty;simp only[Xs]at he;subst he;obtain⟨ho1,ho2⟩:=ho;obtain⟨d,hd1,hd2⟩:=az hT hr rfl;cases d<;>simp[aD]at hd2;subst hd2;obtain⟨i,zz,i1,i2,i3,i4,i5⟩:=(hT _ _ hre).info;have hw:=((hT _ _ hre).ty τ hty).1;obtain⟨hy1,hy2⟩:=hy.int_inv;rcases hx.lst_inv with⟨h1,_,_⟩|⟨h1,_,_⟩|⟨b,off,cap,vals,hv,h1,h2,h3,h4,h5⟩
    ·subst h1;simp at ho2;omega
    ·subst h1;simp at ho2;omega
    ·refine⟨rfl,.pointer (some ⟨b,off+n.toNat *ab τ,none⟩),?_,V.elem n.toNat (by omega) h4 h5 _⟩;have c1:(0<=n/\n<(xs.length:Int)):=⟨ho1,ho2⟩;simp[execOp,hop,hv,hy1,Instr.indexAt,eV,ay hd1,c1,cZ i1,i2,<-hw,Addr.add]
   ·simp at he
  ·simp at he
 ·rename_i e sz by' z ty id m w k n hr hopx hopy
  rw[hopx]at hx;rw[hopy]at hy;split at he
  ·rename_i re hre;split at he
   ·rename_i hty;subst hty;simp only[Xs]at he;subst he;obtain⟨ho1,ho2⟩:=ho;obtain⟨d,hd1,hd2⟩:=az hT hr rfl;cases d<;>simp[aD]at hd2;subst hd2;obtain⟨i,zz,i1,i2,i3,i4,i5⟩:=(hT _ _ hre).info;obtain⟨hy1,hy2⟩:=hy.int_inv;generalize hxe:a.eval x=xv at hx
    cases hx with
    |arr _ _ _ b len cap a' he hl hc1 hc2 hc3=>
     rcases hc3 with rfl|⟨_,h0,_⟩;rotate_left
     ·omega
     refine⟨rfl,.pointer (some ⟨b,n.toNat *re.size,none⟩),?_,?_⟩
     ·have c1:(0<=n/\n<(m:Int)):=⟨ho1,ho2⟩;simp[execOp,hop,hxe,hy1,Instr.indexAt,eV,ay hd1,c1,cZ i1,i2,Addr.add];exact fun h0=>h0.symm
     ·have:=V.aptr (Ω:=Ω) id n.toNat re.size 0 b 0 len he;simpa using this
   ·simp at he
  ·simp at he
 ·rename_i e sz by' z ty s1 m k k' n hr hopx hopy
  rw[hopx]at hx;rw[hopy]at hy;split at he
  ·rename_i re hre;simp only[Xs]at he;subst he;obtain⟨ho1,ho2⟩:=ho;obtain⟨d,hd1,hd2⟩:=az hT hr rfl;cases d<;>simp[aD]at hd2;subst hd2;obtain⟨i,zz,i1,i2,i3,i4,i5⟩:=(hT _ _ hre).info;obtain⟨hy1,hy2⟩:=hy.int_inv;generalize hxe:a.eval x=xv at hx
   cases hx with
   |glst _ _ _ cap a' hc1 hc2 hc3 hst=>
    rcases hc3 with⟨b,rfl⟩|⟨_,h0,_⟩;rotate_left
    ·omega
    refine⟨rfl,.pointer (some ⟨b,n.toNat *re.size,none⟩),?_,?_⟩
    ·have c1:(0<=n/\n<(m:Int)):=⟨ho1,ho2⟩;simp[execOp,hop,hxe,hy1,Instr.indexAt,eV,ay hd1,c1,cZ i1,i2,Addr.add];exact fun h0=>h0.symm
    ·have:=V.gptr (Ω:=Ω) k s1 n.toNat re.size 0 b (by
      obtain⟨mm,base,c,q1,q2,q3⟩:=hst;refine⟨mm,base,c,q1,q2,fun e=>?_⟩;obtain⟨q4,_⟩:=q3 e
      cases base with
      |none=>cases q4
      |some b'=>cases q4;rfl)
     simpa using this
  ·simp at he
 ·rename_i e sz by' z ty τ xs k k' n hr hopx hopy
  rw[hopx]at hx;rw[hopy]at hy;split at he
  ·rename_i re hre;split at he
   ·rename_i hty;simp only[Xs]at he;subst he;have ho1:n=(xs.length:Int):=ho;obtain⟨d,hd1,hd2⟩:=az hT hr rfl;cases d<;>simp[aD]at hd2;subst hd2;obtain⟨i,zz,i1,i2,i3,i4,i5⟩:=(hT _ _ hre).info;have hw:=((hT _ _ hre).ty τ hty).1;obtain⟨hy1,hy2⟩:=hy.int_inv;generalize hxe:a.eval x=xv at hx
    cases hx with
    |lstp _ _ _ b off cap vals h1 h2 h3 h4 h5=>
     refine⟨rfl,.pointer (some ⟨b,off+xs.length *ab τ,none⟩),?_,.tptr τ xs.length k _ ?_⟩
     ·have c1:(0<=n/\n<((xs.length+1:Nat):Int)):=⟨by omega,by omega⟩;have c2:n.toNat=xs.length:=by omega
      have c3:n<(xs.length:Int)+1:=by omega
      simp[execOp,hop,hxe,hy1,Instr.indexAt,eV,ay hd1,c1,c2,cZ i1,i2,<-hw,Addr.add,c3]
     ·obtain⟨m,base,cap',r1,r2,r3⟩:=h3 k rfl;refine⟨m,base,cap',r1,r2,fun e=>?_⟩;have:=r3 e
      cases base with
      |none=>simp[dC]at this
      |some b'=>simp only[dC,Po,Xs,Qt,OV,OK]at this;obtain⟨⟨rfl,rfl⟩,_⟩:=this;exact⟨b,rfl,by simp⟩
   ·simp at he
  ·simp at he
 ·rename_i e m sz by' z ty id k n hr hopx hopy
  rw[hopx]at hx;rw[hopy]at hy;split at he
  ·rename_i re hre;simp only[Xs]at he;subst he;obtain⟨ho1,ho2⟩:=ho;obtain⟨d,hd1,hd2⟩:=az hT hr rfl;cases d<;>simp[aD]at hd2;obtain⟨rfl,rfl⟩:=hd2;obtain⟨i,zz,i1,i2,i3,i4,i5⟩:=(hT _ _ hre).info;obtain⟨hy1,hy2⟩:=hy.int_inv;generalize hxe:a.eval x=xv at hx
   cases hx with
   |ptr _ _ b o len he=>
    refine⟨rfl,.pointer (some ⟨b,o+n.toNat *re.size,none⟩),?_,?_⟩
    ·have c1:(0<=n/\n<(m:Int)):=⟨ho1,ho2⟩;simp[execOp,hop,hxe,hy1,Instr.indexAt,Instr.sureAddr,eV,ay hd1,c1,cZ i1,i2,Addr.add]
    ·have:=V.aptr (Ω:=Ω) id n.toNat re.size 0 b o len he;simpa using this
  ·simp at he
 ·simp at he
theorem Is(hT:aR P C.tbl){t:Nat}{x y:Operand}(hop:o.op=.index t x y):cv P C o:=by
 refine cv.pure fun F s a Ω eff h he ho=>?_;simp only[au,hop]at he;have hx:=b9 h x;have hy:=b9 h y;split at he
 ·rename_i sz by' z ty s' k n hr hopx hopy
  rw[hopx]at hx;rw[hopy]at hy;simp only[Xs]at he;subst he;obtain⟨ho1,ho2⟩:=ho;obtain⟨d,hd1,hd2⟩:=az hT hr rfl;cases d<;>simp[aD]at hd2;obtain⟨hy1,hy2⟩:=hy.int_inv;obtain⟨hx1,hx2⟩:=hx.str_inv;have hlt:n.toNat<s'.length:=by omega
  have hb:(⟨s'.toArray⟩:ByteArray)[n.toNat]?=some s'[n.toNat]:=by
   have e:n.toNat<(⟨s'.toArray⟩:ByteArray).size:=by simpa[ByteArray.size]using hlt
   exact getElem?_pos (⟨s'.toArray⟩:ByteArray) n.toNat e
  refine⟨rfl,.int .u8 (s'[n.toNat].toNat:Int),?_,?_⟩
  ·simp only[execOp,hop,hx1,hy1,Instr.index,eV,Ou,OR,O6,ay hd1];rw[O3 ho1,hb];rfl
  ·have e:s'.getD n.toNat 0=s'[n.toNat]:=by simp[O4,hlt]
   rw[e];refine .int .u8 _ ?_ ?_
   ·simp[IntKind.min,IntKind.signed]
   ·have:=s'[n.toNat].toNat_lt;simp[IntKind.max,IntKind.signed,IntKind.bits];omega
 ·simp at he
theorem iH{F:Fr}{s:AS}{a:Act}{Ω:Om}(h:Holds F s a Ω){x:Option Operand}{n:Option Int}(hb:bnd s.T x=some n) :
  ∃k:IntKind,x.map a.eval=n.map fun n=>.int k n:=by
 cases x with
 |none=>simp[bnd]at hb;subst hb;exact⟨.i64,rfl⟩
 |some x=>
  simp only[bnd]at hb;split at hb
  ·rename_i m hm;simp at hb;subst hb;have:=b9 h x;rw[hm]at this;exact⟨.i64,by simp[this.int_inv.1]⟩
  ·rename_i m hm;simp at hb;subst hb;have:=b9 h x;rw[hm]at this;exact⟨.u64,by simp[this.int_inv.1]⟩
  ·simp at hb
theorem mq{w:World}{n:Int}{k:IntKind}{y:Nat}{code:BoundsCode}(h0:0<=n)(h1:n<=(y:Int)):(Instr.sliceBound (.int k n) y code).run P w=.ok n.toNat w:=by simp[Instr.sliceBound,eV,h0,h1]
theorem gN{w:World}{isSlice:Bool}{len cap:Nat}{l h:Option Int}{kl kh:IntKind}(hl:0<=l.getD 0)(hlh:l.getD 0<=h.getD len)(hh:h.getD len<=len)(hc:len<=cap) :
  (Instr.sliceBounds isSlice len cap (l.map fun n=>.int kl n) (h.map fun n=>.int kh n) none).run P w=
   .ok ((l.getD 0).toNat,(h.getD len).toNat,cap) w:=by
 cases l<;>cases h<;>simp[Instr.sliceBounds]at *<;> (try simp[mq, *])
 ·rename_i h';have:(h':Int)<=cap:=by omega
  rw[mq hlh this];simp
 ·rename_i l' h';have:(h':Int)<=cap:=by omega
  rw[mq (by omega) this];simp;rw[mq hl (by omega)];simp
theorem Cs(hT:aR P C.tbl){t:Nat}{x:Operand}{lo hi:Option Operand}(hop:o.op=.slice t x lo hi none){F:Fr}{s:AS}{a:Act}{Ω:Om}{eff:Eff}(h:Holds F s a Ω)
 (he:Cn C t (opd s.T x) (bnd s.T lo) (bnd s.T hi)=some eff)(ho:eff.asks):eff.upd=[]/\∃v,(execOp a.eval o).run P Ω.w=.ok (.value v) Ω.w/\V Ω eff.val v:=by
 simp only[Cn]at he;have hx:=b9 h x;split at he
 ·rename_i sz by' z ty s' l u hr hopx hlo hhi
  rw[hopx]at hx;simp only[Xs]at he;subst he;obtain⟨ho1,ho2,ho3⟩:=ho;obtain⟨d,hd1,hd2⟩:=az hT hr rfl;cases d<;>simp[aD]at hd2;obtain⟨hx1,hx2⟩:=hx.str_inv;obtain⟨kl,ekl⟩:=iH h hlo;obtain⟨kh,ekh⟩:=iH h hhi;have hb:=gN (P:=P) (w:=Ω.w) (kl:=kl) (kh:=kh) (isSlice:=false) (len:=s'.length) (cap:=s'.length) ho1 ho2 ho3 (Od _);have e:(⟨s'.toArray⟩:ByteArray).extract (l.getD 0).toNat (u.getD s'.length).toNat=⟨((s'.take (u.getD s'.length).toNat).drop (l.getD 0).toNat).toArray⟩:=by apply ByteArray.ext;apply Pj;simp[QR,List.drop_take]
  refine⟨rfl,.string ⟨((s'.take (u.getD s'.length).toNat).drop (l.getD 0).toNat).toArray⟩,?_,.str _ ?_⟩
  ·simp only[execOp,hop,hx1,Instr.sliceAt,Instr.slice,Ou,ay hd1,O6,ekl,ekh,Q7];simp only[Option.isSome_none,P4,OL,Ou];have hsz:(⟨s'.toArray⟩:ByteArray).size=s'.length:=rfl;rw[hsz,hb];simp[e]
  ·have:((s'.take (u.getD s'.length).toNat).drop (l.getD 0).toNat).length<=s'.length:=by simp;omega
   omega
 ·rename_i e sz by' z ty τ xs o' l u hr hopx hlo hhi
  rw[hopx]at hx;split at he
  ·rename_i re hre;split at he
   ·rename_i hty;simp only[Xs]at he;subst he;obtain⟨ho1,ho2,ho3⟩:=ho;obtain⟨d,hd1,hd2⟩:=az hT hr rfl;cases d<;>simp[aD]at hd2;subst hd2;obtain⟨i,zz,i1,i2,i3,i4,i5⟩:=(hT _ _ hre).info;have hw:=((hT _ _ hre).ty τ hty).1;rcases hx.lst_inv with⟨h1,hv,_⟩|⟨h1,_,a0,hv⟩|⟨b,off,cap,vals,hv,h1,h2,h3,h4,h5⟩;rotate_left
    ·subst h1;simp only[ON]at ho2 ho3;have el:(l.getD 0).toNat=0:=by simp at ho2 ho3;omega
     have eu:(u.getD ((0:Nat):Int)).toNat=0:=by simp at ho2 ho3⊢;omega
     obtain⟨kl,ekl⟩:=iH h hlo;obtain⟨kh,ekh⟩:=iH h hhi;have hb:=gN (P:=P) (w:=Ω.w) (kl:=kl) (kh:=kh) (isSlice:=true) (len:=0) (cap:=0) ho1 ho2 ho3 (Od _);refine⟨rfl,.slice (some a0) 0 0,?_,?_⟩
     ·simp only[execOp,hop,hv,Instr.sliceAt,Instr.slice,Ou,ay hd1,O6,ekl,ekh,Q7];rw[hb];simp only[el,eu,O6,cZ i1,OR];simp
     ·have e0:∀m n:Nat,(([]:List (den τ)).take m).drop n=[]:=by simp
      show V Ω (.lst τ _ none) _;rw[e0];exact .lstVoid τ a0
    rotate_right
    ·subst h1;simp only[ON]at ho2 ho3;have el:(l.getD 0).toNat=0:=by simp at ho2 ho3;omega
     have eu:(u.getD ((0:Nat):Int)).toNat=0:=by simp at ho2 ho3⊢;omega
     obtain⟨kl,ekl⟩:=iH h hlo;obtain⟨kh,ekh⟩:=iH h hhi;have hb:=gN (P:=P) (w:=Ω.w) (kl:=kl) (kh:=kh) (isSlice:=true) (len:=0) (cap:=0) ho1 ho2 ho3 (Od _);refine⟨rfl,.slice none 0 0,?_,?_⟩
     ·simp only[execOp,hop,hv,Instr.sliceAt,Instr.slice,Ou,ay hd1,O6,ekl,ekh,Q7];rw[hb];simp only[el,eu,O6,cZ i1,OR];simp
     ·have e0:∀m n:Nat,(([]:List (den τ)).take m).drop n=[]:=by simp
      show V Ω (.lst τ _ none) _;rw[e0];exact .lstNil τ none (fun id hid=>by simp at hid)
    ·obtain⟨kl,ekl⟩:=iH h hlo;obtain⟨kh,ekh⟩:=iH h hhi;have hb:=gN (P:=P) (w:=Ω.w) (kl:=kl) (kh:=kh) (isSlice:=true) (len:=xs.length) (cap:=cap) ho1 ho2 ho3 h1;generalize hln:(l.getD 0).toNat=ln at *
     generalize hun:(u.getD (xs.length:Int)).toNat=un at *
     have hle:ln<=un:=by omega
     have hue:un<=xs.length:=by omega
     have hlen:((xs.take un).drop ln).length=un-ln:=by simp;omega
     have hsz:i.size=ab τ:=by rw[i2,<-hw]
     have hget:∀(j:Nat)(y:den τ),((xs.take un).drop ln)[j]?=some y->xs[ln+j]?=some y:=by
      intro j y hj;rw[P9,Oy]at hj;split at hj
      ·exact hj
      ·simp at hj
     refine⟨rfl,.slice (some (if cap=ln then⟨b,off,none⟩else⟨b,off+ln *ab τ,none⟩)) (un-ln) (cap-ln),?_,?_⟩
     ·simp only[execOp,hop,hv,Instr.sliceAt,Instr.slice,Ou,ay hd1,O6,ekl,ekh,Q7];rw[hb];simp[cZ i1,hsz,Addr.add];split
      ·rfl
      ·simp
     ·by_cases hcl:cap=ln
      ·rw[O3 hcl];have:un=ln:=by omega
       have hnil:(xs.take un).drop ln=[]:=Oc (by omega);rw[hnil];have:=V.lst (Ω:=Ω) τ [] none b off (cap-ln) (fun _ _=>undef) (by simp) (by omega) (fun id hid=>by simp at hid) (fun i x hx=>by simp at hx) (fun i x hx=>by simp at hx);simpa[show un-ln=0 from by omega]using this
      ·rw[O0 hcl];rw[<-hlen];refine .lst τ _ none b _ (cap-ln) (fun j=>vals (ln+j)) (by omega) (by omega) (fun id hid=>by simp at hid) (fun j y hj k c hc=>?_) (fun j y hj k c hc=>?_)
       ·have:=h4 _ y (hget j y hj) k c hc;have e:off+ln *ab τ+(j *ab τ+k)=off+((ln+j) *ab τ+k):=by rw[OU];omega
        rw[e];exact this
       ·exact h5 _ y (hget j y hj) k c hc
   ·simp at he
  ·simp at he
 ·simp at he
theorem Ct{x:Operand}{i:Nat}(hop:o.op=.extract x i):cv P C o:=by
 refine cv.pure fun F s a Ω eff h he ho=>?_;simp only[au,hop]at he;have hx:=b9 h x;split at he
 ·rename_i cs hcs;rw[hcs]at hx;obtain⟨vs,hv,hvl⟩:=hx.tup_inv;simp only[Ov]at he;obtain⟨c,hc,rfl⟩:=he;rw[jI]at hc
  have hi:i<vs.length:=by
   rw[<-hvl.1];rcases O5 i cs.length with k|k
   ·exact k
   ·rw[O2 k]at hc;simp at hc
  refine⟨rfl,vs[i],?_,hvl.2 i c _ hc (NY hi)⟩;simp[execOp,hop,hv,Instr.extract,hi]
 ·simp at he
theorem iQ{n:Nat}(h:n<=bj):IntKind.i64.min<=(n:Int)/\(n:Int)<=IntKind.i64.max:=by unfold bj at h;simp[IntKind.min,IntKind.max,IntKind.signed,IntKind.bits];omega
theorem MC(hT:aR P C.tbl){args:Array Operand}{ts:Array Nat}(hop:o.op=.call {callee:=.builtin .len,args:=args,argTypes:=ts}):cv P C o:=by
 refine cv.pure fun F s a Ω eff h he ho=>?_;simp only[au,hop,Mw]at he;split at he
 ·rename_i x t hargs hts;have ha:args=#[x]:=by apply Pj;simpa using hargs
  have ht:ts=#[t]:=by apply Pj;simpa using hts
  subst ha ht;have hx:=b9 h x;split at he
  ·rename_i sz by' z ty s' hr hopx
   rw[hopx]at hx;simp only[Xs]at he;subst he;obtain⟨d,hd1,hd2⟩:=az hT hr rfl;cases d<;>simp[aD]at hd2;obtain⟨hx1,hx2⟩:=hx.str_inv;obtain⟨b1,b2⟩:=iQ hx2;refine⟨rfl,.int .i64 (s'.length:Int),?_,.int .i64 _ b1 b2⟩;simp[execOp,hop,resolve,invoke,builtin,hx1,Builtin.len_,ay hd1,goInt];rfl
  ·rename_i e sz by' z ty τ xs o' hr hopx
   rw[hopx]at hx;simp only[Xs]at he;subst he;obtain⟨d,hd1,hd2⟩:=az hT hr rfl;cases d<;>simp[aD]at hd2;rcases hx.lst_inv with⟨h1,hv,_⟩|⟨h1,_,a0,hv⟩|⟨b,off,cap,vals,hv,h1,h2,h3,h4,h5⟩;rotate_left
   ·subst h1;obtain⟨b1,b2⟩:=iQ (n:=0) (by unfold bj;omega);refine⟨rfl,.int .i64 0,?_,.int .i64 _ b1 b2⟩;simp[execOp,hop,resolve,invoke,builtin,hv,Builtin.len_,ay hd1,goInt]
   rotate_right
   ·subst h1;obtain⟨b1,b2⟩:=iQ (n:=0) (by unfold bj;omega);refine⟨rfl,.int .i64 0,?_,.int .i64 _ b1 b2⟩;simp[execOp,hop,resolve,invoke,builtin,hv,Builtin.len_,ay hd1,goInt]
   ·obtain⟨b1,b2⟩:=iQ (n:=xs.length) (by omega);refine⟨rfl,.int .i64 (xs.length:Int),?_,.int .i64 _ b1 b2⟩;simp[execOp,hop,resolve,invoke,builtin,hv,Builtin.len_,ay hd1,goInt]
  ·rename_i e sz by' z ty hr hopx
   rw[hopx]at hx;simp only[Xs]at he;subst he;obtain⟨d,hd1,hd2⟩:=az hT hr rfl;cases d<;>simp[aD]at hd2;obtain⟨b1,b2⟩:=iQ (n:=0) (by unfold bj;omega);refine⟨rfl,.int .i64 0,?_,.int .i64 _ b1 b2⟩;simp[execOp,hop,resolve,invoke,builtin,hx.nils_inv,Builtin.len_,ay hd1,goInt]
  ·rename_i e sz by' z ty id n w hr hopx
   rw[hopx]at hx;simp only[Xs]at he;subst he;obtain⟨d,hd1,hd2⟩:=az hT hr rfl;cases d<;>simp[aD]at hd2;generalize hxe:a.eval x=xv at hx
   cases hx with
   |arr _ _ _ b len cap a' he hl hc1 hc2 hc3=>obtain⟨b1,b2⟩:=iQ (n:=n) (by omega);refine⟨rfl,.int .i64 n,?_,.int .i64 _ b1 b2⟩;simp[execOp,hop,resolve,invoke,builtin,hxe,Builtin.len_,ay hd1,goInt]
  ·rename_i e sz by' z ty s1 n k1 hr hopx
   rw[hopx]at hx;simp only[Xs]at he;subst he;obtain⟨d,hd1,hd2⟩:=az hT hr rfl;cases d<;>simp[aD]at hd2;generalize hxe:a.eval x=xv at hx
   cases hx with
   |glst _ _ _ cap a' hc1 hc2 hc3 hst=>obtain⟨b1,b2⟩:=iQ (n:=n) (by omega);refine⟨rfl,.int .i64 n,?_,.int .i64 _ b1 b2⟩;simp[execOp,hop,resolve,invoke,builtin,hxe,Builtin.len_,ay hd1,goInt]
  ·rename_i e sz by' z ty id k' hr hopx
   rw[hopx]at hx;split at he
   ·rename_i κ τ m hm;simp only[Xs]at he;subst he;obtain⟨d,hd1,hd2⟩:=az hT hr rfl;cases d<;>simp[aD]at hd2;generalize hxe:a.eval x=xv at hx
    cases hx with
    |map _ r he=>obtain⟨r',e1,e2,es,clock,e3,e4⟩:=h.slots _ _ hm;rw[he]at e1;simp only[Xs,CObj.obj.injEq]at e1;subst e1;have hle:m.length<=bj:=ho;obtain⟨b1,b2⟩:=iQ (n:=m.length) hle;refine⟨rfl,.int .i64 m.length,?_,.int .i64 _ b1 b2⟩;simp[execOp,hop,resolve,invoke,builtin,hxe,Builtin.len_,ay hd1,goInt,getObj,Sem.run,e3,e4.size]
   ·simp at he
  ·simp at he
 ·simp at he
end
end Go.AL
end
noncomputable section
namespace Go.AL
variable [Tabs]
section
variable {P:Program} {C:Cfg} {o:Oper}
theorem VL.take{Ω:Om}{cs:List AV}{vs:List Value}(h:VL Ω cs vs)(n:Nat):VL Ω (cs.take n) (vs.take n):=by
 refine⟨by simp[h.1],fun j c v hc hv=>?_⟩;rw[Oy]at hc hv;split at hc
 ·rename_i hj;rw[O3 hj]at hv;exact h.2 j c v hc hv
 ·simp at hc
theorem VL.drop{Ω:Om}{cs:List AV}{vs:List Value}(h:VL Ω cs vs)(n:Nat):VL Ω (cs.drop n) (vs.drop n):=by refine⟨by simp[h.1],fun j c v hc hv=>?_⟩;rw[P9]at hc hv;exact h.2 _ c v hc hv
theorem sA:∀(cs vs ds:List AV),l9 cs vs=some ds->vs.length<=cs.length/\ds=vs++cs.drop vs.length
 |cs,[],ds,h=>by cases cs<;>simp[l9]at h<;>simp[h]
 |[],_::_,ds,h=>by simp[l9]at h
 |c::cs,v::vs,ds,h=>by
  simp only[l9]at h;split at h
  ·rename_i l hl;obtain⟨h1,h2⟩:=sA cs vs l hl;simp at h;exact⟨by simp;omega,by simp[<-h,h2]⟩
  ·simp at h
theorem fj:∀(cs:List AV)(off:Nat)(vs ds:List AV),splice cs off vs=some ds->
  off+vs.length<=cs.length/\ds=cs.take off++vs++cs.drop (off+vs.length)
 |cs,0,vs,ds,h=>by
  have h':l9 cs vs=some ds:=by cases cs<;>simpa[splice]using h
  obtain⟨h1,h2⟩:=sA _ _ _ h';exact⟨by omega,by simp[h2]⟩
 |[],n+1,vs,ds,h=>by simp[splice]at h
 |c::cs,n+1,vs,ds,h=>by
  simp only[splice]at h;split at h
  ·rename_i l hl;obtain⟨h1,h2⟩:=fj cs n vs l hl;simp at h;refine⟨by simp;omega,?_⟩;rw[<-h,h2,show n+1+vs.length=(n+vs.length)+1 from by omega];simp
  ·simp at h
theorem VL.splice{Ω:Om}{cs ds es:List AV}{us ws:List Value}{off:Nat}(h:VL Ω cs us)(k:VL Ω ds ws)(hs:splice cs off ds=some es) :
  VL Ω es (us.take off++ws++us.drop (off+ws.length)):=by
 obtain⟨h1,h2⟩:=fj _ _ _ _ hs;subst h2;rw[<-k.1];exact((h.take off).append k).append (h.drop _)
theorem iy(B:Nat->Option SObj)(k:Nat)(x:SObj):bB B [(k,x)]=fun j=>if k=j then some x else B j:=rfl
theorem Holds.slot{F:Fr}{s:AS}{a:Act}{Ω:Om}{k:Nat}{c:CObj}{obj:SObj}{w':World}{pub':Nat->Nat->Prop}{dst:Option Nat}{val:AV}{v:Value}
 (h:Holds F s a Ω)(hx:Ext Ω ⟨fun i=>if k=i then some c else Ω.e i,w',pub'⟩)
 (hslot:bn ⟨fun i=>if k=i then some c else Ω.e i,w',pub'⟩ F.own k obj)
 (hold:∀i c',i≠k->Ω.e i=some c'->jV Ω ⟨fun i=>if k=i then some c else Ω.e i,w',pub'⟩ c')
 (hnew:∀i c' b o,i≠k->Ω.e i=some c'->occ c' b o->occ c b o->False)
 (hp:∀b o,pub' b o->∃v,w'.cell? ⟨b,o,none⟩=some v)
 (hf:FrameOK F ⟨fun i=>if k=i then some c else Ω.e i,w',pub'⟩)
 (hv:V ⟨fun i=>if k=i then some c else Ω.e i,w',pub'⟩ val v)(hd:∀d,dst=some d->d<F.n) :
  Holds F ⟨bz s.T dst val,bB s.B [(k,obj)]⟩ (a.put dst v) ⟨fun i=>if k=i then some c else Ω.e i,w',pub'⟩:=by
 refine h.step hx hv hd (fun id o ho=>?_) (fun id hid=>?_) (fun i j ci cj b o hi hj hbi hbj=>?_) hp hf
 ·simp only[iy]at ho;by_cases hk:k=id
  ·subst hk;simp at ho;subst ho;exact hslot
  ·rw[O0 hk]at ho;exact(h.slots id o ho).keep hx (by simp[hk]) (fun c' hc'=>hold id c' (fun e=>hk e.symm) hc')
 ·simp only[iy]at hid;by_cases hk:k=id
  ·subst hk;simp at hid
  ·rw[O0 hk]at hid;simp only[O0 hk];exact h.dom id hid
 ·by_cases hi':k=i<;>by_cases hj':k=j
  ·omega
  ·simp only[O3 hi',O0 hj',Xs]at hi hj;subst hi;exact(hnew j cj b o (fun e=>hj' e.symm) hj hbj hbi).elim
  ·simp only[O0 hi',O3 hj',Xs]at hi hj;subst hj;exact(hnew i ci b o (fun e=>hi' e.symm) hi hbi hbj).elim
  ·simp only[O0 hi',O0 hj']at hi hj;exact h.inj i j ci cj b o hi hj hbi hbj
theorem V.glst_inv{Ω:Om}{s n k:Nat}{v:Value}(h:V Ω (.glst s n k) v):∃cap a,v=.slice a n cap/\n<=cap/\cap<=bj/\((∃b,a=some ⟨b,0,none⟩)∨a=none/\n=0/\cap=0)/\mn Ω k s a cap:=by
 cases h with|glst _ _ _ cap a h1 h2 h3 h4=>exact⟨cap,a,rfl,h1,h2,h3,h4⟩
theorem vU{τ:Ty}{xs:List (den τ)}{n j:Nat}{c:AV}(h:(flat τ (xs.take n))[j]?=some c):(flat τ xs)[j]?=some c:=by
 have e:flat τ xs=flat τ (xs.take n)++flat τ (xs.drop n):=by rw[<-cJ,Qk]
 have hj:j<(flat τ (xs.take n)).length:=by
  rcases O5 j (flat τ (xs.take n)).length with q|q
  ·exact q
  ·rw[O2 q]at h;cases h
 rw[e,Ob hj];exact h
theorem Holds.shrink{F:Fr}{s:AS}{a:Act}{Ω:Om}{k s' m cap:Nat}{τ:Ty}{xs:List (den τ)}{a0:Option Addr}{dst:Option Nat}
 (h:Holds F s a Ω)(hB:s.B k=some (.grow τ s' xs))(hst:mn Ω k s' a0 cap)(hm:m<=xs.length)(ha:(∃b,a0=some ⟨b,0,none⟩)∨a0=none/\xs.length=0/\cap=0)(hd:∀d,dst=some d->d<F.n) :
  ∃Ω',Ω'.w=Ω.w/\Holds F ⟨bz s.T dst (.glst (s'+1) (xs.take m).length k),bB s.B [(k,.grow τ (s'+1) (xs.take m))]⟩ (a.put dst (.slice a0 m cap)) Ω':=by
 obtain⟨base,cap',e1,e2,e3,e4,e5⟩:=h.slots k _ hB;obtain⟨m',base',c',g1,g2,g3⟩:=hst;rw[e1]at g1;simp only[Xs,CObj.tail.injEq]at g1;obtain⟨rfl,rfl,rfl⟩:=g1;obtain⟨rfl,rfl⟩:=g3 rfl;have hlen:(xs.take m).length=m:=by simp;omega
 have hx:Ext Ω ⟨fun i=>if k=i then some (.tail (s'+1) base cap)else Ω.e i,Ω.w,Ω.pub⟩:=by
  refine⟨fun i c hc=>?_,fun _ _ p=>p,fun _ _ _=>rfl⟩;by_cases hi:k=i
  ·subst hi;rw[e1]at hc;simp only[Xs]at hc;subst hc;exact⟨_,by simp;rfl,by simp[CLe]⟩
  ·exact⟨c,by simp[hi,hc],CLe.refl c⟩
 refine⟨⟨fun i=>if k=i then some (.tail (s'+1) base cap)else Ω.e i,Ω.w,Ω.pub⟩,rfl,h.slot hx ?_ (fun i c' hi hc=>jV.of_blocks fun b o hb=>⟨rfl,fun _ p=>p⟩) (fun i c' b o hi hc hb hb'=>?_) h.pubok ?_ ?_ hd⟩
 ·refine⟨base,cap,by simp,by rw[hlen];omega,e3,e4,fun b hb=>?_⟩;obtain⟨q1,q2,q3,q4⟩:=e5 b hb;refine⟨q1,q2,q3,fun j c hc=>?_⟩;obtain⟨v,v1,v2⟩:=q4 j c (vU hc);exact⟨v,v1,v2.ext hx⟩
 ·exact hi (h.inj i k _ _ b o hc e1 hb hb')
 ·exact⟨h.frame.os,h.frame.tape,h.frame.output,h.frame.size,h.frame.block,h.frame.cell,h.frame.kind,h.frame.pub,h.frame.old,h.frame.pcell⟩
 ·have:=V.glst (Ω:=⟨fun i=>if k=i then some (.tail (s'+1) base cap)else Ω.e i,Ω.w,Ω.pub⟩) (s'+1) m k cap (dC base) (by omega) e3 (by
   rcases ha with⟨b,hb⟩|⟨h1,h2,h3⟩
   ·exact .inl ⟨b,hb⟩
   ·exact .inr ⟨h1,by omega,h3⟩) ⟨_,base,cap,by simp,Od _,fun _=>⟨rfl,rfl⟩⟩
  rw[hlen];exact this
theorem It(hT:aR P C.tbl){t:Nat}{x:Operand}{lo hi:Option Operand}(hop:o.op=.slice t x lo hi none):cv P C o:=by
 intro F s a Ω eff next Q h hd he ho hn
 simp only[au,hop]at he;split at he
 ·rename_i s1 n k hopx;unfold Ci at he;split at he
  ·rename_i e sz by' z ty hh τ s' xs hr hlo hhi hB
   split at he
   ·rename_i re hre;simp only[Xs]at he;subst he;obtain⟨⟨rfl,rfl⟩,ho2,ho3⟩:=ho;have hx:=b9 h x;rw[hopx]at hx;obtain⟨d,hd1,hd2⟩:=az hT hr rfl;cases d<;>simp[aD]at hd2;subst hd2;obtain⟨i,zz,i1,i2,i3,i4,i5⟩:=(hT _ _ hre).info;obtain⟨cap,a0,hv,hc1,hc2,hc3,hst⟩:=hx.glst_inv;obtain⟨kl,ekl⟩:=iH h hlo;obtain⟨kh,ekh⟩:=iH h hhi;have hb:=gN (P:=P) (w:=Ω.w) (kl:=kl) (kh:=kh) (isSlice:=true) (len:=xs.length) (cap:=cap) (l:=none) (h:=some hh) (by simp) (by simpa using ho2) (by simpa using ho3) hc1;rw[Q7]at hb;obtain⟨Ω',w',hh'⟩:=h.shrink hB hst (m:=hh.toNat) (by omega) hc3 hd;refine aq (v:=.slice a0 hh.toNat cap) (w':=Ω.w) ?_ ?_
    ·simp only[execOp,hop,hv,Instr.sliceAt,Instr.slice,Ou,ay hd1,O6,ekl,ekh,Q7];rw[hb];rcases hc3 with⟨b,rfl⟩|⟨rfl,q1,q2⟩
     ·simp[cZ i1,Addr.add]
     ·have:hh.toNat=0:=by omega
      simp[cZ i1,this,q2]
    ·rw[<-w'];exact hn _ _ hh'
   ·simp at he
  ·rename_i e sz by' z ty ll τ s' xs hr hlo hhi hB
   split at he
   ·rename_i re hre;simp only[Xs]at he;subst he;obtain⟨⟨rfl,rfl⟩,ho2,ho3⟩:=ho;have hx:=b9 h x;rw[hopx]at hx;obtain⟨d,hd1,hd2⟩:=az hT hr rfl;cases d<;>simp[aD]at hd2;subst hd2;obtain⟨i,zz,i1,i2,i3,i4,i5⟩:=(hT _ _ hre).info;obtain⟨cap,a0,hv,hc1,hc2,hc3,hst⟩:=hx.glst_inv;obtain⟨kl,ekl⟩:=iH h hlo;obtain⟨kh,ekh⟩:=iH h hhi;have hb:=gN (P:=P) (w:=Ω.w) (kl:=kl) (kh:=kh) (isSlice:=true) (len:=xs.length) (cap:=cap) (l:=some ll) (h:=none) (by simpa using ho2) (by simp;omega) (by simp) hc1;rw[Q7]at hb;obtain⟨m0,base,c0,g1,g2,g3⟩:=hst;obtain⟨base',cap',e1,e2,e3,e4,e5⟩:=h.slots k _ hB;rw[e1]at g1;simp only[Xs,CObj.tail.injEq]at g1;obtain⟨rfl,rfl,rfl⟩:=g1;obtain⟨q1,q2⟩:=g3 rfl;rcases hc3 with⟨b,rfl⟩|⟨rfl,q3,q4⟩
    ·have hbase:base'=some b:=by
      cases base' with|none=>simp[dC]at q1|some b2=>simp[dC]at q1;rw[q1]
     refine aq (v:=.slice (some ⟨b,ll.toNat *re.size,none⟩) (xs.length-ll.toNat) (cap-ll.toNat)) (w':=Ω.w) ?_ (hn _ _ ?_)
     ·have hne:¬(cap-ll.toNat=0):=by omega
      have hne':¬(cap=ll.toNat):=by omega
      simp only[execOp,hop,hv,Instr.sliceAt,Instr.slice,Ou,ay hd1,O6,ekl,ekh,Q7];rw[hb];simp[cZ i1,Addr.add,hne',i2];exact fun e=>e.symm
     ·have:=h.pure (dst:=o.dst) (val:=.gsuf k s1 ll.toNat re.size (xs.length-ll.toNat)) (v:=.slice (some ⟨b,ll.toNat *re.size,none⟩) (xs.length-ll.toNat) (cap-ll.toNat)) (.gsuf k s1 ll.toNat re.size _ b _ ⟨s1,base',cap',e1,Od _,fun _=>hbase⟩) hd;simpa[AS.put,bB]using this
    ·omega
   ·simp at he
  ·simp at he
 ·obtain⟨h1,v,h2,h3⟩:=Cs hT hop h he ho;refine aq h2 (hn _ _ ?_);have:=h.pure h3 hd;simpa[AS.put,h1,bB]using this
theorem iz(w:World)(x:Obj)(b:Nat)(hb:b<w.heap.size):(w.alloc x).heap[b]?=w.heap[b]?:=by show(w.heap.push x)[b]?=_;rw[PL,O0 (by omega)]
theorem bG(w:World)(x:Obj):(w.alloc x).heap[w.heap.size]?=some x:=by show(w.heap.push x)[w.heap.size]?=_;simp
theorem Holds.cell_lt{F:Fr}{s:AS}{a:Act}{Ω:Om}(h:Holds F s a Ω){b o:Nat}(hp:Ω.pub b o):b<Ω.w.heap.size:=by obtain⟨v,hv⟩:=h.pubok b o hp;exact aC hv
theorem Holds.alloc{F:Fr}{s:AS}{a:Act}{Ω:Om}{d:Nat}{c:CObj}{obj:SObj}{x:Obj}{p:Nat->Prop}{dst:Option Nat}{val:AV}{v:Value}
 (h:Holds F s a Ω)(hn:Ω.e d=none∨∃c0,Ω.e d=some c0/\CLe c0 c)(hc:∀b o,occ c b o->b=Ω.w.heap.size)
 (hslot:Ext Ω ⟨fun i=>if d=i then some c else Ω.e i,Ω.w.alloc x,fun b o=>Ω.pub b o∨(b=Ω.w.heap.size/\p o)⟩->
   bn ⟨fun i=>if d=i then some c else Ω.e i,Ω.w.alloc x,fun b o=>Ω.pub b o∨(b=Ω.w.heap.size/\p o)⟩ F.own d obj)
 (hcell:∀o,p o->∃v,(Ω.w.alloc x).cell? ⟨Ω.w.heap.size,o,none⟩=some v)
 (hv:Ext Ω ⟨fun i=>if d=i then some c else Ω.e i,Ω.w.alloc x,fun b o=>Ω.pub b o∨(b=Ω.w.heap.size/\p o)⟩->
   V ⟨fun i=>if d=i then some c else Ω.e i,Ω.w.alloc x,fun b o=>Ω.pub b o∨(b=Ω.w.heap.size/\p o)⟩ val v)(hd:∀d,dst=some d->d<F.n) :
  Holds F ⟨bz s.T dst val,bB s.B [(d,obj)]⟩ (a.put dst v)
   ⟨fun i=>if d=i then some c else Ω.e i,Ω.w.alloc x,fun b o=>Ω.pub b o∨(b=Ω.w.heap.size/\p o)⟩:=by
 have hx:Ext Ω ⟨fun i=>if d=i then some c else Ω.e i,Ω.w.alloc x,fun b o=>Ω.pub b o∨(b=Ω.w.heap.size/\p o)⟩:=by
  refine⟨fun id c' hc'=>?_,fun b o hp=>Or.inl hp,fun b o hp=>ai (iz _ _ _ (h.cell_lt hp)) o⟩;by_cases hid:d=id
  ·subst hid;rcases hn with hn|⟨c0,hn,hl⟩
   ·rw[hn]at hc';cases hc'
   ·rw[hn]at hc';simp at hc';subst hc';exact⟨c,by simp,hl⟩
  ·exact⟨c',by simp[hid,hc'],CLe.refl _⟩
 refine h.slot hx (hslot hx) (fun i c' hi he=>jV.of_blocks fun b o hb=>?_) (fun i c' b o hi he hb hb'=>?_) (fun b o hp=>?_) ?_ (hv hx) hd
 ·have hlt:=h.blk he hb;exact⟨iz _ _ _ hlt,fun o ho=>ho.resolve_right (fun e=>by omega)⟩
 ·have hlt:=h.blk he hb;have:=hc b o hb';omega
 ·rcases hp with hp|⟨rfl,hp⟩
  ·obtain⟨v,hv⟩:=h.pubok b o hp;exact⟨v,by rw[ai (iz _ _ _ (h.cell_lt hp)),hv]⟩
  ·exact hcell o hp
 ·have hsz:=h.frame.size;refine⟨h.frame.os,h.frame.tape,h.frame.output,by simp;omega,fun b hb hnb=>?_,fun b o hb hnb=>?_,fun b hb=>?_,fun b o hp=>?_,fun b o hp=>Or.inl (h.frame.old b o hp),fun b o hp=>(hx.cell b o (h.frame.old b o hp)).trans (h.frame.pcell b o hp)⟩
  ·show(Ω.w.alloc x).heap[b]?=_;rw[iz _ _ _ (by omega)];exact h.frame.block b hb hnb
  ·exact(ai (iz Ω.w x b (by omega)) o).trans (h.frame.cell b o hb hnb)
  ·intro hnb;obtain⟨k1,k2⟩:=h.frame.kind b hb hnb;exact⟨(aT (iz Ω.w x b (by omega))).trans k1,fun o=>(aK (iz Ω.w x b (by omega)) o).trans (k2 o)⟩
  ·rcases hp with hp|⟨rfl,hp⟩
   ·exact h.frame.pub b o hp
   ·exact Or.inr (Or.inl h.frame.size)
theorem Holds.newVar{F:Fr}{s:AS}{a:Act}{Ω:Om}{d:Nat}{c:AV}{vs:Array Value}{ty:Nat}
 (h:Holds F s a Ω)(hB:s.B d=none)(hv:VL Ω (ae c) vs.toList)(hd:d<F.n) :
  ∃Ω',Ω'.w=Ω.w.alloc (.cells vs ty)/\
   Holds F ⟨bz s.T (some d) (.ptr d 0),bB s.B [(d,.box c)]⟩ (a.put (some d) (.pointer (some ⟨Ω.w.heap.size,0,none⟩))) Ω':=by
 refine⟨_,rfl,h.alloc (c:=.box Ω.w.heap.size 0 (ae c).length) (p:=fun _=>False) (Or.inl (h.dom d hB)) (fun b o hb=>hb.1) (fun hx=>?_) (fun _ hf=>hf.elim) (fun hx=>?_) (fun d' hd'=>by simp at hd';subst hd';exact hd)⟩
 ·refine⟨Ω.w.heap.size,0,by simp,fun j c' hc=>?_⟩
  have hj:j<vs.size:=by
   have h1:(ae c).length=vs.toList.length:=hv.1;have h2:vs.toList.length=vs.size:=PE;rcases O5 j (ae c).length with k|k
   ·rw[<-h2,<-h1];exact k
   ·rw[O2 k]at hc;cases hc
  have hcells:(Ω.w.alloc (.cells vs ty)).heap[Ω.w.heap.size]?=some (.cells vs ty (0,0)):=bG _ _;refine⟨Or.inl h.frame.size,fun hp=>?_,ez hcells _,vs[j],?_,(hv.2 j c' _ hc (by simp[hj])).ext hx⟩
  ·rcases hp with hp|⟨_,hp⟩
   ·have:=h.cell_lt hp;omega
   ·exact hp
  ·simp only[P0];rw[al hcells];simp[hj]
 ·have:=V.ptr (Ω:=⟨fun i=>if d=i then some (.box Ω.w.heap.size 0 (ae c).length)else Ω.e i,Ω.w.alloc (.cells vs ty),fun b o=>Ω.pub b o∨(b=Ω.w.heap.size/\False)⟩) d 0 Ω.w.heap.size 0 (ae c).length (by simp);simpa using this
theorem kz{w:World}{t:Nat}{v:Value}:(newVar t v).run P w=.ok ⟨w.heap.size,0,none⟩ (w.alloc (.cells v.cells t)):=by simp[newVar,newRow]
theorem ze(v:Value):ae (cm v)=[cm v]:=by unfold cm;split<;>(try split)<;>rfl
theorem xA{v:Value}(h:cm v=.nilp):v=.pointer none:=by unfold cm at h;split at h<;>(try split at h)<;>first|rfl|cases h
theorem xB{v:Value}(h:cm v=.nils):v=.slice none 0 0:=by unfold cm at h;split at h<;>(try split at h)<;>first|rfl|cases h
theorem sB:∀{l:List AV},KS l=true->flat (.int .i64) (List.replicate l.length (0:Int))=l
 |[],_=>rfl
 |c::r,h=>by
  unfold KS at h;split at h
  ·rename_i h1;cases h1
  ·rename_i r' h1;simp only[P8]at h1;obtain⟨rfl,rfl⟩:=h1;have ih:=sB h;simp only[O8,List.replicate_succ,flat,PM]at ih⊢;rw[ih];rfl
  ·cases h
theorem Iu(hT:aR P C.tbl){e:Nat}(hop:o.op=.alloc e):cv P C o:=by
 intro F s a Ω eff next Q h hd he ho hn
 simp only[au,hop]at he;split at he
 ·rename_i d r hdst hr;split at he
  ·rename_i u hu;split at he
   ·rename_i hB;simp only[Xs]at he;subst he;obtain⟨i,z,i1,i2,i3,i4,i5⟩:=(hT _ _ hr).info
    have hz0:r.zero=[.nilp,.nils]:=by
     unfold Mj at hu;split at hu
     ·assumption
     ·cases hu
    rw[hz0]at i5
    have hz:z.cells=#[.pointer none,.slice none 0 0]:=by
     match hl:z.cells.toList,i5 with
     |[],i5=>cases i5
     |[_],i5=>simp at i5
     |_::_::_::_,i5=>simp at i5
     |[x,y],i5=>simp only[OJ,RN,P8,OK]at i5;have hx:x=.pointer none:=xA i5.1;have hy:y=.slice none 0 0:=xB i5.2;subst hx hy;exact Array.toList_inj.1 hl
    have hnew:(Ω.w.alloc (.cells #[.pointer none,.slice none 0 0] e)).heap[Ω.w.heap.size]?=some (.cells #[.pointer none,.slice none 0 0] e (0,0)):=bG _ _
    have hh:=h.alloc (d:=d) (c:=.bld Ω.w.heap.size none) (obj:=.bld e u []) (x:=.cells #[.pointer none,.slice none 0 0] e) (p:=fun _=>False) (dst:=some d) (val:=.bptr d) (v:=.pointer (some ⟨Ω.w.heap.size,0,none⟩))
     (Or.inl (h.dom d hB)) (fun b o hb=>by rcases hb with hb|hb;exact hb;cases hb)
     (fun hx=>by
      refine⟨Ω.w.heap.size,none,by simp,fun b' hb o=>?_,.pointer none,.slice none 0 0,hnew,.inl rfl,rfl,by simp,World.ownsRowF_nil _ _ _ _,fun _=>rfl⟩;rcases hb with rfl|hb
      ·refine⟨Or.inl h.frame.size,fun hp=>?_⟩;rcases hp with hp|⟨_,hp⟩
       ·have:=h.cell_lt hp;omega
       ·exact hp
      ·cases hb)
     (fun _ hf=>hf.elim) (fun hx=>.bptr d Ω.w.heap.size none (by simp)) (fun d' hd'=>by simp at hd';subst hd';exact hd d hdst)
    refine aq (v:=.pointer (some ⟨Ω.w.heap.size,0,none⟩)) (w':=Ω.w.alloc (.cells z.cells e)) ?_ ?_
    ·simp[execOp,hop,Instr.alloc,eU i1 i4,kz]
    ·rw[hz];rw[hdst]at hn⊢;exact hn _ _ hh
   ·simp at he
  split at he
  ·rename_i c hB hz;simp only[Xs]at he;subst he;obtain⟨i,z,i1,i2,i3,i4,i5⟩:=(hT _ _ hr).info
   have hc:ae c=r.zero:=by
    unfold EH at hz;split at hz
    ·split at hz
     ·rename_i hzz;simp only[NZ]at hzz;simp only[Xs]at hz;subst hz;rw[<-bX _ _ hzz.2];exact sB hzz.1
     ·cases hz
    split at hz
    ·simp only[Xs]at hz;subst hz;rfl
    ·split at hz
     ·rename_i c1 hzz;simp only[Xs]at hz;subst hz;rw[hzz]at i5
      match hl:z.cells.toList,i5 with
      |[u],i5=>simp only[OJ,RN,P8,OK]at i5;rw[<-i5,ze,i5,hzz]
     ·cases hz
   have hvl:VL Ω (ae c) z.cells.toList:=by rw[hc,<-i5];exact sx Ω _
   obtain⟨Ω',hw,hh⟩:=h.newVar (ty:=e) hB hvl (hd d hdst);refine aq (v:=.pointer (some ⟨Ω.w.heap.size,0,none⟩)) (w':=Ω.w.alloc (.cells z.cells e)) ?_ ?_
   ·simp[execOp,hop,Instr.alloc,eU i1 i4,kz]
   ·rw[<-hw];rw[hdst]at hn⊢;exact hn _ _ hh
  ·simp at he
 ·simp at he
theorem vV(off:Nat):∀(vs:List Value)(i:Nat)(cs:Array Value),off+i+vs.length<=cs.size->
  (vs.zipIdx i).foldl (fun(cs:Array Value)(x:Value×Nat)=>cs.setIfInBounds (off+x.2) x.1) cs=
   (cs.toList.take (off+i)++vs++cs.toList.drop (off+i+vs.length)).toArray
 |[],i,cs,_=>by simp
 |v::vs,i,cs,h=>by
  simp at h;simp only[List.zipIdx_cons,QV];rw[vV off vs (i+1) _ (by simp;omega)];apply Pj;have hi:off+i<cs.toList.length:=by simp;omega
  simp only[Array.toList_setIfInBounds,O8];rw[Ql,O3 hi]
  have e1:(List.take (off+i) cs.toList++v::List.drop (off+i+1) cs.toList).take (off+(i+1))=List.take (off+i) cs.toList++[v]:=by
   rw[List.take_append,Qb (by simp;omega)];congr 1;have:off+(i+1)-(List.take (off+i) cs.toList).length=1:=by simp;omega
   rw[this];rfl
  have e2:(List.take (off+i) cs.toList++v::List.drop (off+i+1) cs.toList).drop (off+(i+1)+vs.length)=List.drop (off+i+(vs.length+1)) cs.toList:=by
   rw[List.drop_append,List.drop_of_length_le (by simp;omega),Pn];have:off+(i+1)+vs.length-(List.take (off+i) cs.toList).length=vs.length+1:=by simp;omega
   rw[this,Pq,List.drop_drop];congr 1;omega
  rw[e1,e2];simp
theorem vW{place:Nat->Option (Nat×Nat)}{cells:Array Value}{i:Nat}{v:Value}{rest:List (Nat×Value)}{off size:Nat}
 (hp:place i=some (off,size))(hs:v.cells.size=size)(hl:off+v.cells.size<=cells.size) :
  Instr.fill place cells ((i,v)::rest)=
   Instr.fill place (cells.toList.take off++v.cells.toList++cells.toList.drop (off+v.cells.size)).toArray rest:=by
 simp only[Instr.fill,hp];rw[O0 (by simp;omega)];congr 1;rw[<-Array.foldl_toList];have:=vV off v.cells.toList 0 cells (by simpa using hl);simp only[PR,PE]at this;rw[<-this];simp[Array.toList_zipIdx]
theorem zf{Ω:Om}{x:AV}{v:Value}(h:V Ω x v){n:Nat}(hl:ga (ae x) n=true)(hn:(ae x).all jQ=true):v.cells.size=n:=by have:=(h.parts hn).1;rw[bX _ _ hl]at this;simpa using this.symm
theorem qn{Ω:Om}(fs:List (Nat×Nat))(sz:Nat->Option Nat):∀(ps:List (Nat×AV))(qs:List (Nat×Value))(cs ds:List AV)(vs:List Value)(place:Nat->Option (Nat×Nat)),
  (∀i off t n,nth fs i=some (off,t)->sz t=some n->place i=some (off,n))->
  ps.map (·.1)=qs.map (·.1)->VL Ω (ps.map (·.2)) (qs.map (·.2))->VL Ω cs vs->yW fs sz cs ps=some ds->
  ∃ws,Instr.fill place vs.toArray qs=some ws/\VL Ω ds ws.toList
 |[],qs,cs,ds,vs,place,_,hq,_,hc,hf=>by
  cases qs with|cons _ _=>simp at hq|nil=>simp[yW]at hf;subst hf;exact⟨vs.toArray,rfl,by simpa using hc⟩
 |(i,x)::ps,[],cs,ds,vs,place,_,hq,_,_,_=>by simp at hq
 |(i,x)::ps,(i',v)::qs,cs,ds,vs,place,hp,hq,hv,hc,hf=>by
  simp only[OJ,P8]at hq;obtain⟨rfl,hq⟩:=hq;simp only[OJ]at hv;simp only[yW]at hf;split at hf
  ·rename_i off t hft;split at hf
   ·rename_i n hn;split at hf
    ·rename_i hl;simp only[NZ]at hl;split at hf
     ·rename_i es hes;have hxv:=hv.head;have hpl:=hp _ _ _ _ hft hn;have hsz:=zf hxv hl.2 hl.1;have hsp:=hc.splice (hxv.parts hl.1) hes;obtain⟨s1,s2⟩:=fj _ _ _ _ hes;obtain⟨ws,h1,h2⟩:=qn fs sz ps qs es ds _ place hp hq hv.tail hsp hf;refine⟨ws,?_,h2⟩
      rw[vW hpl hsz (by
       have e1:=bX _ _ hl.2;simp only[PB,<-hc.1];omega)]
      simpa using h1
     ·simp at hf
    ·simp at hf
   ·simp at hf
  ·simp at hf
theorem sC{w:World}(hT:aR P C.tbl):∀(fields:List Field),(∀f∈fields,∃i,P.info? f.type=some i/\i.size≠0)->
  (fields.mapM fun f=>(do pure (f.offset,<-sizeOf f.type):Sem (Nat×Nat))).run P w=.ok (fields.map fun f=>(f.offset,P.cellsOf f.type)) w
 |[],_=>rfl
 |f::fs,h=>by obtain⟨i,hi,_⟩:=h f (by simp);rw[List.mapM_cons];simp only[Ou,cZ hi,O6,OR,sC hT fs (fun f hf=>h f (by simp[hf])),OJ,Program.cellsOf,hi,Pr,OX]
theorem Iv(hT:aR P C.tbl){t:Nat}{ps:Array (Nat×Operand)}(hop:o.op=.build t ps):cv P C o:=by
 refine cv.pure fun F s a Ω eff h he ho=>?_;simp only[au,hop]at he;split at he
 ·rename_i fs sz by' z ty hr
  split at he
  ·rename_i cs hcs;simp only[Xs]at he;subst he;obtain⟨d,hd1,hd2⟩:=az hT hr rfl;cases d<;>simp[aD]at hd2;rename_i fields;obtain⟨hf1,hf2⟩:=hd2;obtain⟨i,zv,i1,i2,i3,i4,i5⟩:=(hT _ _ hr).info;have i5':List.map cm zv.cells.toList=z:=i5;have hz:VL Ω z zv.cells.toList:=by rw[<-i5'];exact sx Ω _
   have hfi:∀f∈fields.toList,∃i,P.info? f.type=some i/\i.size≠0:=by
    intro f hf;obtain⟨j,hj,hje⟩:=Qj.1 (Qq.1 hf);have:=hf2 j hj;rw[hje]at this;split at this
    ·rename_i i' hi';exact⟨i',hi',fun h0=>by simp[h0]at this⟩
    ·simp at this
   have hpl:∀w,(fields.mapM fun f=>(do pure (f.offset,<-sizeOf f.type):Sem (Nat×Nat))).run P w=.ok (fields.toList.map fun f=>(f.offset,P.cellsOf f.type)).toArray w:=by intro w;rw[<-PI (xs:=fields),QZ];simp only[Sem.run_map,sC hT fields.toList hfi,O6]
   obtain⟨ws,h1,h2⟩:=qn (Ω:=Ω) fs (fun t=>(aB C.tbl t).map (·.size)) (ps.toList.map fun(i,x)=>(i,opd s.T x)) (ps.toList.map fun(i,x)=>(i,a.eval x)) z cs zv.cells.toList
    (fun i=>((fields.toList.map fun f=>(f.offset,P.cellsOf f.type)).toArray)[i]?)
    (by
     intro j off t' n hn1 hn2;rw[jI,<-hf1]at hn1;simp only[OD,Ov]at hn1 hn2;obtain⟨f,hf,e⟩:=hn1;obtain⟨r',hr',e'⟩:=hn2;simp at e;obtain⟨i',z',j1,j2,j3,j4,j5⟩:=(hT _ _ hr').info;simp only[Pk,OD,hf,Pr,Program.cellsOf,e.1,e.2,j1,OX,j2,e'])
    (by simp[RA])
    (by
     refine⟨by simp,fun j c v hc hv=>?_⟩;simp only[List.map_map,OD,Ov]at hc hv;obtain⟨x,hx,e⟩:=hc;obtain⟨x',hx',e'⟩:=hv;rw[hx]at hx';simp at hx';subst hx';simp at e e';rw[<-e,<-e'];exact b9 h x.2)
    hz hcs
   refine⟨rfl,.agg ws,?_,?_⟩
   ·simp only[execOp,hop,Instr.build,Ou,eU i1 i4,O6,ay hd1,hpl,OR];have e:ps.map (fun x=>(x.1,a.eval x.2))=(ps.toList.map fun(i,x)=>(i,a.eval x)).toArray:=by apply Pj;simp
    have e2:(ps.map fun x=>match x with|(i,x)=>(i,a.eval x)).toList=ps.toList.map fun(i,x)=>(i,a.eval x):=by simp
    simp only[PI]at h1;rw[e2,h1];simp
   ·have:=V.of_agg h2;show V Ω (.agg cs) _;simpa using this
  ·simp at he
 ·simp at he
end
end Go.AL
end
