/-
  The program's data as plain types, symbolic values over them, and the evaluator of the program's code over symbolic values. Nothing is proved here; no condition.
-/
import Derived.Orders
set_option linter.unusedVariables false
set_option linter.unusedSimpArgs false
set_option linter.unnecessarySimpa false
set_option linter.deprecated false
namespace Go.AL

abbrev Str := List UInt8

/-! ### The program's data -/
structure Shape where
  kind : Int
  pkg : Str
  name : Str
  names : List Str
  parts : List Shape
structure Item where
  kind : Int
  name : Str
  shape : Shape
structure Change where
  kind : Int
  name : Str

instance : Inhabited Shape := ⟨⟨0, [], [], [], []⟩⟩
instance : Inhabited Item := ⟨⟨0, [], default⟩⟩
instance : Inhabited Change := ⟨⟨0, []⟩⟩

inductive SN where
  | shape | item | change
  deriving DecidableEq

inductive Ty where
  | int (k : IntKind) | bool | str | lst (t : Ty) | st (n : SN) | pt (n : SN)
  deriving DecidableEq

@[reducible] def SD : SN → Type
  | .shape => Shape
  | .item => Item
  | .change => Change

@[reducible] def den : Ty → Type
  | .int _ => Int
  | .bool => Bool
  | .str => Str
  | .lst t => List (den t)
  | .st n => SD n
  | .pt n => Option (SD n)

def dfl : (τ : Ty) → den τ
  | .int _ => (0 : Int)
  | .bool => false
  | .str => ([] : Str)
  | .lst _ => []
  | .pt _ => none
  | .st .shape => (default : Shape)
  | .st .item => (default : Item)
  | .st .change => (default : Change)

/-! ### Symbolic values -/
inductive AV where
  | undef
  | int (k : IntKind) (n : Int)
  | bool (b : Bool)
  | str (s : Str)
  | lst (τ : Ty) (xs : List (den τ)) (o : Option Nat)
  | nils
  | ptr (id off : Nat)
  | cptr (c : AV)
  | nilp
  | pt (n : SN) (x : Option (SD n))
  | st (n : SN) (x : SD n)
  | agg (cs : List AV)
  | tup (vs : List AV)
  | fn (f : Nat) (cs : List AV)
  | row (τ : Ty) (xs : List (den τ))
  | arr (id n w : Nat)
  | aptr (id i w off : Nat)
  | map (id : Nat)
  | bptr (id : Nat)
  | iface (t : Nat) (a : AV)
  | nilif

instance : Inhabited AV := ⟨.undef⟩

def shapeCells (s : Shape) : List AV := [.int .i64 s.kind, .str s.pkg, .str s.name, .lst .str s.names none, .lst (.st .shape) s.parts none]
def cells : (τ : Ty) → den τ → List AV
  | .int k, n => [.int k n]
  | .bool, b => [.bool b]
  | .str, s => [.str s]
  | .lst t, l => [.lst t l none]
  | .pt n, x => [.pt n x]
  | .st .shape, s => shapeCells s
  | .st .item, x => .int .i64 (Item.kind x) :: .str (Item.name x) :: shapeCells (Item.shape x)
  | .st .change, x => [.int .i64 (Change.kind x), .str (Change.name x)]

def width : Ty → Nat
  | .st .shape => 5
  | .st .item => 7
  | .st .change => 2
  | _ => 1

def castS (n m : SN) (x : SD n) : Option (SD m) := if h : n = m then some (h ▸ x) else none
def castL (τ σ : Ty) (xs : List (den τ)) : Option (List (den σ)) := if h : τ = σ then some (h ▸ xs) else none

def asInt (k : IntKind) : AV → Option Int
  | .int k' n => if k' = k then some n else none
  | _ => none
def asBool' : AV → Option Bool
  | .bool b => some b
  | _ => none
def asStr : AV → Option Str
  | .str s => some s
  | _ => none
def asLst (σ : Ty) : AV → Option (List (den σ))
  | .lst τ xs _ => castL τ σ xs
  | .nils => some []
  | _ => none

def castO (n m : SN) (x : Option (SD n)) : Option (Option (SD m)) := if h : n = m then some (h ▸ x) else none
def asPt (n : SN) : AV → Option (Option (SD n))
  | .pt m x => castO m n x
  | .nilp => some none
  | .cptr (.st m x) => castO m n (some x)
  | _ => none

def packShape : List AV → Option Shape
  | [a, b, c, d, e] =>
    match asInt .i64 a, asStr b, asStr c, asLst .str d, asLst (.st .shape) e with
    | some a, some b, some c, some d, some e => some ⟨a, b, c, d, e⟩
    | _, _, _, _, _ => none
  | _ => none
def pack : (τ : Ty) → List AV → Option (den τ)
  | .int k, [a] => asInt k a
  | .bool, [a] => asBool' a
  | .str, [a] => asStr a
  | .lst t, [a] => asLst t a
  | .pt n, [a] => asPt n a
  | .st .shape, cs => packShape cs
  | .st .item, a :: b :: cs =>
    match asInt .i64 a, asStr b, packShape cs with
    | some a, some b, some c => some (⟨a, b, c⟩ : Item)
    | _, _, _ => none
  | .st .change, [a, b] =>
    match asInt .i64 a, asStr b with
    | some a, some b => some (⟨a, b⟩ : Change)
    | _, _ => none
  | _, _ => none

def isSt : Ty → Bool
  | .st _ => true
  | _ => false

/-- The value of a datum. -/
def inj : (τ : Ty) → den τ → AV
  | .int k, n => .int k n
  | .bool, b => .bool b
  | .str, s => .str s
  | .lst t, l => .lst t l none
  | .pt n, x => .pt n x
  | .st n, x => .st n x

/-- The cells of many data in a row. -/
def flat (τ : Ty) (xs : List (den τ)) : List AV := xs.flatMap (cells τ)

def parts' : AV → List AV
  | .agg cs => cs
  | .st n x => cells (.st n) x
  | .row τ xs => flat τ xs
  | a => [a]

/-- A value read as a datum of a type. -/
def arg : (τ : Ty) → AV → Option (den τ)
  | .st m, .st n x => castS n m x
  | .st m, .agg cs => pack (.st m) cs
  | .st _, _ => none
  | τ, a => pack τ [a]

/-- A struct that stands in another one, at a place among its cells. -/
def subSt : (n : SN) → Nat → SD n → Option AV
  | .item, 2, x => some (.st .shape (Item.shape x))
  | _, _, _ => none

/-- A struct with another struct in the place of one that stands in it. -/
def setSt : (n : SN) → Nat → SD n → AV → Option AV
  | .item, 2, x, .st .shape y => some (.st .item (⟨Item.kind x, Item.name x, y⟩ : Item))
  | _, _, _, _ => none

/-! ### Symbolic states -/
inductive SObj where
  | box (c : AV)
  | tail (τ : Ty) (n : Nat)
  | map (κ τ : Ty) (m : List (den κ × den τ))
  | bld (t u : Nat) (l : Str)

structure St where
  t : List (Nat × AV)
  b : List (Nat × SObj)

def tget : List (Nat × AV) → Nat → AV
  | [], _ => .undef
  | (j, v) :: r, i => if j == i then v else tget r i
def tset : List (Nat × AV) → Nat → AV → List (Nat × AV)
  | [], i, v => [(i, v)]
  | (j, u) :: r, i, v => if j == i then (i, v) :: r else (j, u) :: tset r i v
def bget : List (Nat × SObj) → Nat → Option SObj
  | [], _ => none
  | (j, v) :: r, i => if j == i then some v else bget r i
def bset : List (Nat × SObj) → Nat → SObj → List (Nat × SObj)
  | [], i, v => [(i, v)]
  | (j, u) :: r, i, v => if j == i then (i, v) :: r else (j, u) :: bset r i v

/-! ### Types -/
inductive TI where
  | int (k : IntKind) | bool | str | slice (e : Nat) | ptr (e : Nat) | strct (e : Bool) (fs : List (Nat × Nat)) | map (k e : Nat) | iface | other

structure TR where
  ti : TI
  size : Nat
  bytes : Nat
  zero : List AV
  ty : Option Ty

/-- What a contract tells: what it asks; when it panics, with what, and what the slots are then; the result; the slots that turned, or are new. -/
structure Ans where
  ob : Option Prop
  pan : Option (Bool × AV × List (Nat × SObj))
  val : AV
  upd : List (Nat × SObj)
def Ans.ret (v : AV) : Ans := ⟨none, none, v, []⟩

structure Cfg where
  tbl : List (Nat × TR)
  spec : Nat → List AV → List (Nat × SObj) → Option Ans
  /-- whose arguments keep their tokens -/
  keeps : Nat → Bool
  /-- of which arguments a part of the box is lent -/
  lends : Nat → List (Option Nat)

def tlook : List (Nat × TR) → Nat → Option TR
  | [], _ => none
  | (j, r) :: l, t => if j == t then some r else tlook l t

def TR.isAgg (r : TR) : Bool :=
  match r.ti with
  | .strct _ _ => true
  | _ => false

/-! ### What an operation does -/
structure Eff where
  ob : Option Prop
  val : AV
  upd : List (Nat × SObj)

def Eff.pure (v : AV) : Eff := ⟨none, v, []⟩
/-- What is asked. -/
def Eff.asks (e : Eff) : Prop := match e.ob with | none => True | some p => p

def inR (k : IntKind) (n : Int) : Prop := k.min ≤ n ∧ n ≤ k.max

def topC : IntKind → Nat
  | .i8 => 127 | .i16 => 32767 | .i32 => 2147483647 | .i64 => 9223372036854775807
  | .u8 => 255 | .u16 => 65535 | .u32 => 4294967295 | .u64 => 18446744073709551615
def signedC : IntKind → Bool
  | .i8 | .i16 | .i32 | .i64 => true
  | _ => false
def okC (k : IntKind) : Int → Bool
  | .ofNat m => Nat.ble m (topC k)
  | .negSucc m => if signedC k then Nat.ble m (topC k) else false
def lenIs {α : Type} : List α → Nat → Bool
  | [], 0 => true
  | _ :: r, n + 1 => lenIs r n
  | _, _ => false
def lenLe {α : Type} : List α → Nat → Bool
  | [], _ => true
  | _ :: r, n + 1 => lenLe r n
  | _ :: _, 0 => false
def nth {α : Type} : List α → Nat → Option α
  | [], _ => none
  | a :: _, 0 => some a
  | _ :: r, n + 1 => nth r n
def takeN : List AV → Nat → Option (List AV)
  | _, 0 => some []
  | a :: r, n + 1 => (match takeN r n with | some l => some (a :: l) | none => none)
  | [], _ + 1 => none
def dropN : List AV → Nat → Option (List AV)
  | l, 0 => some l
  | _ :: r, n + 1 => dropN r n
  | [], _ + 1 => none
/-- The constants that stand in code. -/
def ofConst : Value → AV
  | .int k n => if okC k n then .int k n else .undef
  | .bool b => .bool b
  | .string s => if lenLe s.data.toList 100000 then .str s.data.toList else .undef
  | .slice none 0 0 => .nils
  | .pointer none => .nilp
  | .nilIface => .nilif
  | _ => .undef

def opd (T : Nat → AV) : Operand → AV
  | .tmp t => T t
  | .const v => ofConst v
  | .func f => .fn f []
  | .global _ => .undef

def binInt (op : BinOp) (k : IntKind) (a b : Int) : Option Eff :=
  match op with
  | .add => some ⟨some (inR k (a + b)), .int k (a + b), []⟩
  | .sub => some ⟨some (inR k (a - b)), .int k (a - b), []⟩
  | .mul => some ⟨some (inR k (a * b)), .int k (a * b), []⟩
  | .quo => some ⟨some (b ≠ 0 ∧ inR k (a.tdiv b)), .int k (a.tdiv b), []⟩
  | .rem => some ⟨some (b ≠ 0 ∧ inR k (a.tmod b)), .int k (a.tmod b), []⟩
  | .eql => some (.pure (.bool (decide (a = b))))
  | .neq => some (.pure (.bool (!decide (a = b))))
  | .lss => some (.pure (.bool (decide (a < b))))
  | .leq => some (.pure (.bool (decide (a ≤ b))))
  | .gtr => some (.pure (.bool (decide (b < a))))
  | .geq => some (.pure (.bool (decide (b ≤ a))))
  | _ => none

def binStr (op : BinOp) (a b : Str) : Option Eff :=
  match op with
  | .add => some ⟨some (a.length + b.length ≤ 9223372036854775807), .str (a ++ b), []⟩
  | .eql => some (.pure (.bool (decide (a = b))))
  | .neq => some (.pure (.bool (!decide (a = b))))
  | .lss => some (.pure (.bool (Op.bytesLess a b)))
  | .leq => some (.pure (.bool (Op.bytesLess a b || decide (a = b))))
  | .gtr => some (.pure (.bool (!(Op.bytesLess a b || decide (a = b)))))
  | .geq => some (.pure (.bool (!Op.bytesLess a b)))
  | _ => none

def binBool (op : BinOp) (a b : Bool) : Option Eff :=
  match op with
  | .eql => some (.pure (.bool (a == b)))
  | .neq => some (.pure (.bool (!(a == b))))
  | _ => none

/-- Some cells out of a row. -/
def sub (cs : List AV) (off n : Nat) : Option (List AV) :=
  match dropN cs off with
  | some cs => takeN cs n
  | none => none

def oneOrAgg (r : TR) (cs : List AV) : Option AV :=
  if r.isAgg then some (.agg cs) else (match cs with | [c] => some c | _ => none)

def over : List AV → List AV → Option (List AV)
  | cs, [] => some cs
  | _ :: cs, v :: vs => (match over cs vs with | some l => some (v :: l) | none => none)
  | [], _ :: _ => none
def splice : List AV → Nat → List AV → Option (List AV)
  | cs, 0, vs => over cs vs
  | c :: cs, n + 1, vs => (match splice cs n vs with | some l => some (c :: l) | none => none)
  | [], _ + 1, _ => none

/-- One cell: what may stand in a box. -/
def leaf : AV → Bool
  | .undef | .agg _ | .tup _ | .st _ _ | .row _ _ => false
  | _ => true

/-- A variable out of what stands in a box, or behind a pointer to what stands fast. -/
def loadF (r : TR) (c : AV) (off : Nat) : Option AV :=
  match c, off, r.ty with
  | .st n x, 0, some (.st m) =>
    if n = m then some (.st n x) else (match sub (parts' (.st n x)) 0 r.size with | some cs => oneOrAgg r cs | none => none)
  | .st n x, o + 1, some (.st m) =>
    (match subSt n (o + 1) x with
    | some (.st m' y) => if m' = m then some (.st m' y) else none
    | _ => (match sub (parts' (.st n x)) (o + 1) r.size with | some cs => oneOrAgg r cs | none => none))
  | c, off, _ => (match sub (parts' c) off r.size with | some cs => oneOrAgg r cs | none => none)
/-- A variable in a box takes a value. -/
def storeF (r : TR) (c : AV) (off : Nat) (v : AV) : Option AV :=
  if (parts' v).all leaf && lenIs (parts' v) r.size then
    (match off with
    | 0 => if lenIs (parts' c) r.size then some v else (match splice (parts' c) 0 (parts' v) with | some cs => some (.agg cs) | none => none)
    | o + 1 => (match splice (parts' c) (o + 1) (parts' v) with | some cs => some (.agg cs) | none => none))
  else none

def fillF (fs : List (Nat × Nat)) (size : Nat → Option Nat) (zero : List AV) : List (Nat × AV) → Option (List AV)
  | [] => some zero
  | (i, v) :: r =>
    match nth fs i with
    | some (off, t) =>
      (match size t with
      | some n => if (parts' v).all leaf && lenIs (parts' v) n then (match splice zero off (parts' v) with | some z => fillF fs size z r | none => none) else none
      | none => none)
    | none => none

/-- The elements of a literal slice, in order, each given. -/
def itemsF (τ : Ty) (i : Nat) : List (Nat × AV) → Option (List (den τ))
  | [] => some []
  | (j, v) :: r =>
    if j == i then
      (match arg τ v, itemsF τ (i + 1) r with
        | some x, some l => some (x :: l)
        | _, _ => none)
    else none

def fieldOf (r : TR) (f : Nat) : Option (Nat × Nat) :=
  match r.ti with
  | .strct _ fs => nth fs f
  | _ => none

def bnd (T : Nat → AV) : Option Operand → Option (Option Int)
  | none => some none
  | some x => match opd T x with
    | .int .i64 n => some (some n)
    | _ => none

/-- A text's bytes as numbers. -/
def bytesI (s : Str) : List Int := s.map fun b => (b.toNat : Int)

def appendF (C : Cfg) (t : Nat) (dst : Nat) (x y : AV) (look : Nat → Option SObj) : Option Eff :=
  match tlook C.tbl t with
  | some ⟨.slice e, _, _, _, _⟩ =>
    (match tlook C.tbl e with
    | some re =>
      (match x, y with
      | .nils, .nils => some (.pure .nils)
      | .lst τ xs o, .nils => some (.pure (.lst τ xs o))
      | .lst τ xs (some k), .lst σ ys _ =>
        (match castL σ τ ys, look k with
        | some ys, some (.tail τ' n) =>
          if τ' = τ ∧ re.ty = some τ then
            some ⟨some (xs.length = n ∧ (xs.length + ys.length) * re.bytes ≤ 140737488355328), .lst τ (xs ++ ys) (some k), [(k, .tail τ (xs ++ ys).length)]⟩
          else none
        | _, _ => none)
      | .nils, .lst σ ys _ =>
        (match look dst with
        | none => if re.ty = some σ then some ⟨some (ys.length * re.bytes ≤ 140737488355328), .lst σ ys (some dst), [(dst, .tail σ ys.length)]⟩ else none
        | _ => none)
      | _, _ => none)
    | none => none)
  | _ => none

/-! ### Slots that values name -/
def ids : AV → List Nat
  | .ptr i _ => [i]
  | .lst _ _ (some i) => [i]
  | .agg cs => idsL cs
  | .tup cs => idsL cs
  | .fn _ cs => idsL cs
  | .cptr c => ids c
  | .arr i _ _ => [i]
  | .aptr i _ _ _ => [i]
  | .map i => [i]
  | .bptr i => [i]
  | .iface _ a => ids a
  | _ => []
where idsL : List AV → List Nat
  | [] => []
  | a :: r => ids a ++ idsL r
def objIds : SObj → List Nat
  | .box c => ids c
  | _ => []

/-! ### Values, with other names for slots -/
mutual
def mapV (fp : Nat → Nat → Option (Nat × Nat)) (fi ft : Nat → Option Nat) : AV → Option AV
  | .ptr i o => (match fp i o with | some (j, p) => some (.ptr j p) | none => none)
  | .lst τ xs o => (match o with | some k => some (.lst τ xs (ft k)) | none => some (.lst τ xs none))
  | .cptr c => (match mapV fp fi ft c with | some c => some (.cptr c) | none => none)
  | .agg cs => (match mapVs fp fi ft cs with | some cs => some (.agg cs) | none => none)
  | .tup cs => (match mapVs fp fi ft cs with | some cs => some (.tup cs) | none => none)
  | .fn f cs => (match mapVs fp fi ft cs with | some cs => some (.fn f cs) | none => none)
  | .arr i n w => (match fi i with | some j => some (.arr j n w) | none => none)
  | .aptr i n w o => (match fi i with | some j => some (.aptr j n w o) | none => none)
  | .map i => (match fi i with | some j => some (.map j) | none => none)
  | .bptr i => (match fi i with | some j => some (.bptr j) | none => none)
  | .iface t a => (match mapV fp fi ft a with | some a => some (.iface t a) | none => none)
  | a => some a
def mapVs (fp : Nat → Nat → Option (Nat × Nat)) (fi ft : Nat → Option Nat) : List AV → Option (List AV)
  | [] => some []
  | a :: r => (match mapV fp fi ft a, mapVs fp fi ft r with | some a, some r => some (a :: r) | _, _ => none)
end

/-! ### Calls that lend slots -/
/-- A lent slot: its number, and which part of it. -/
abbrev Lent := Nat × Option (Nat × Nat)

def reach (look : Nat → Option SObj) : Nat → List Nat → List Nat → List Nat
  | 0, _, acc => acc
  | _ + 1, [], acc => acc
  | n + 1, i :: r, acc =>
    if acc.contains i then reach look n r acc
    else reach look n (r ++ (match look i with | some o => objIds o | none => [])) (acc ++ [i])

def idx : List Lent → Nat → Nat → Option (Nat × Option (Nat × Nat))
  | [], _, _ => none
  | (j, r) :: l, i, k => if j == i then some (k, r) else idx l i (k + 1)

/-- The names of lent slots in a callee. -/
def isLent (i : Nat) : Bool := Nat.ble 900 i && Nat.blt i 1000
def toP (L : List Lent) (i o : Nat) : Option (Nat × Nat) :=
  match idx L i 900 with
  | some (k, none) => some (k, o)
  | some (k, some (off, len)) => if Nat.ble off o && Nat.blt o (off + len) then some (k, o - off) else none
  | none => none
def toI (L : List Lent) (i : Nat) : Option Nat :=
  match idx L i 900 with
  | some (k, none) => some k
  | _ => none
/-- The caller's name for a new slot of a call. -/
def nid (d k : Nat) : Nat := (k + 1) * 1000 + d
/-- Which slot a callee's name is. -/
def lentAt (L : List Lent) (k : Nat) : Option Lent := if Nat.ble 900 k then nth L (k - 900) else none
def fromP (L : List Lent) (d k o : Nat) : Option (Nat × Nat) :=
  match lentAt L k with
  | some (i, none) => some (i, o)
  | some (i, some (off, _)) => some (i, off + o)
  | none => some (nid d k, o)
def fromI (L : List Lent) (d k : Nat) : Option Nat :=
  match lentAt L k with
  | some (i, none) => some i
  | some (_, some _) => none
  | none => some (nid d k)

def subA (c : AV) (off len : Nat) : Option AV := match sub (parts' c) off len with | some cs => some (.agg cs) | none => none
def subC (c : AV) : Option (Nat × Nat) → Option AV
  | none => some c
  | some (off, len) =>
    match c with
    | .st n x =>
      (match subSt n off x with
      | some (.st m y) => if width (.st m) = len then some (.st m y) else subA (.st n x) off len
      | _ => subA (.st n x) off len)
    | c => subA c off len
def putA (c : AV) (off : Nat) (d : AV) : Option AV := match splice (parts' c) off (parts' d) with | some cs => some (.agg cs) | none => none
def putC (c : AV) (r : Option (Nat × Nat)) (d : AV) : Option AV :=
  match r with
  | none => some d
  | some (off, len) =>
    if lenIs (parts' d) len then
      (match c with
      | .st n x => (match setSt n off x d with | some a => some a | none => putA (.st n x) off d)
      | c => putA c off d)
    else none

def canO (L : List Lent) (r : Option (Nat × Nat)) : SObj → Option SObj
  | .box c =>
    (match subC c r with
    | some c => (match mapV (toP L) (toI L) (toI L) c with | some c => some (.box c) | none => none)
    | none => none)
  | o => (match r with | none => some o | some _ => none)
def canS (look : Nat → Option SObj) (L : List Lent) : List Lent → Nat → Option (List (Nat × SObj))
  | [], _ => some []
  | (i, r) :: l, k =>
    match look i with
    | some o => (match canO L r o, canS look L l (k + 1) with | some o, some l => some ((k, o) :: l) | _, _ => none)
    | none => none
def backO (L : List Lent) (d : Nat) (r : Option (Nat × Nat)) (old : Option SObj) : SObj → Option SObj
  | .box c =>
    (match mapV (fromP L d) (fromI L d) (fromI L d) c with
    | some c => (match old with | some (.box b) => (match putC b r c with | some c => some (.box c) | none => none) | none => some (.box c) | _ => none)
    | none => none)
  | o => (match r with | none => some o | some _ => none)
def backU (look : Nat → Option SObj) (L : List Lent) (d : Nat) : List (Nat × SObj) → Option (List (Nat × SObj))
  | [] => some []
  | (k, o) :: u =>
    match lentAt L k with
    | some (i, r) =>
      (match look i with
      | some old => (match backO L d r (some old) o, backU look L d u with | some o, some u => some ((i, o) :: u) | _, _ => none)
      | none => none)
    | none =>
      (match look (nid d k) with
      | none => (match backO L d none none o, backU look L d u with | some o, some u => some ((nid d k, o) :: u) | _, _ => none)
      | some _ => none)
def newIds (L : List Lent) (d : Nat) (u : List (Nat × SObj)) : List Nat :=
  u.filterMap fun x => match lentAt L x.1 with | some _ => none | none => some (nid d x.1)
/-- All lent slots, as they are behind a call. -/
def fullU (S u : List (Nat × SObj)) : List (Nat × SObj) := u ++ S.filter fun x => !(u.map (·.1)).contains x.1

def lendOf (i : Nat) : List AV → List (Option Nat) → Option (Nat × Nat)
  | .ptr j o :: r, n :: ns => if j == i then (match n with | some n => some (o, n) | none => none) else lendOf i r ns
  | _ :: r, _ :: ns => lendOf i r ns
  | _, _ => none
def isBox (look : Nat → Option SObj) (i : Nat) : Bool := match look i with | some (.box _) => true | _ => false

structure CallR where
  foot : List Nat
  eff : Eff
  pan : Option (Bool × AV × List (Nat × SObj))

def distinct : List Nat → Bool
  | [] => true
  | a :: r => !r.contains a && distinct r

def lentOf (C : Cfg) (f : Nat) (args : List AV) (look : Nat → Option SObj) : List Lent :=
  (reach look 64 (ids.idsL args) []).map fun i => (i, if isBox look i then lendOf i args (C.lends f) else none)

def backR (look : Nat → Option SObj) (L : List Lent) (S : List (Nat × SObj)) (d : Nat) (A : Ans) : Option CallR :=
  match mapV (fromP L d) (fromI L d) (fromI L d) A.val, backU look L d (fullU S A.upd), distinct (A.upd.map (·.1)) with
  | some v, some u, true =>
    (match A.pan with
    | none => some ⟨newIds L d A.upd, ⟨A.ob, v, u⟩, none⟩
    | some (b, pv, pu) =>
      (match mapV (fromP L d) (fromI L d) (fromI L d) pv, backU look L d (fullU S pu), distinct (pu.map (·.1)) with
      | some pv, some pu', true => some ⟨newIds L d A.upd ++ newIds L d pu, ⟨A.ob, v, u⟩, some (b, pv, pu')⟩
      | _, _, _ => none))
  | _, _, _ => none

def stripIf (keeps : Bool) (args : List AV) : Option (List AV) :=
  match keeps with
  | true => some args
  | false => mapVs (fun i o => some (i, o)) some (fun _ => none) args

def callL (C : Cfg) (d : Nat) (f : Nat) (args : List AV) (look : Nat → Option SObj) (L : List Lent) : Option CallR :=
  match distinct (L.map (·.1)) && Nat.blt d 1000 && Nat.ble L.length 100 with
  | true =>
    (match mapVs (toP L) (toI L) (toI L) args, canS look L L 900 with
    | some as, some S => (match C.spec f as S with | some A => backR look L S d A | none => none)
    | _, _ => none)
  | false => none
def callR (C : Cfg) (d : Nat) (f : Nat) (args : List AV) (look : Nat → Option SObj) : Option CallR :=
  match stripIf (C.keeps f) args with
  | none => none
  | some args => callL C d f args look (lentOf C f args look)

/-- The function that is called, with its arguments. -/
def calleeOf (T : Nat → AV) (c : Call) : Option (Nat × List AV) :=
  match c.callee with
  | .value (.func f) => some (f, c.args.toList.map (opd T))
  | .value (.tmp t) => (match T t with | .fn f caps => some (f, c.args.toList.map (opd T) ++ caps) | _ => none)
  | _ => none

def callOf (C : Cfg) (o : Oper) (T : Nat → AV) (look : Nat → Option SObj) : Option CallR :=
  match o.op, o.dst with
  | .call c, some d => (match calleeOf T c with | some (f, args) => callR C d f args look | none => none)
  | _, _ => none

/-- The slots that an operation looks at. -/
def need (C : Cfg) (o : Oper) (T : Nat → AV) (look : Nat → Option SObj) : List Nat :=
  match o.op with
  | .alloc _ | .box .. | .buildSlice .. | .makeSlice .. | .makeMap .. => o.dst.toList
  | .load _ a | .store _ a _ => (match opd T a with | .ptr id _ => [id] | .aptr id _ _ _ => [id] | _ => [])
  | .lookup _ x _ _ => (match opd T x with | .map id => [id] | _ => [])
  | .mapUpdate _ x _ _ | .insert _ x _ _ => (match opd T x with | .map id => [id] | _ => [])
  | .call { callee := .builtin .append, args, .. } =>
    (match args.toList with
    | [x, _] => (match opd T x with | .lst _ _ (some k) => [k] | .nils => o.dst.toList | _ => [])
    | _ => [])
  | .call { callee := .builtin .len, args, .. } =>
    (match args.toList with
    | [x] => (match opd T x with | .map id => [id] | _ => [])
    | _ => [])
  | .call c =>
    (match calleeOf T c with
    | some (f, args) =>
      (match stripIf (C.keeps f) args with
      | some args => (lentOf C f args look).map (·.1) ++ (match callOf C o T look with | some r => r.foot | none => [])
      | none => [])
    | none => [])
  | _ => []

/-- When an operation panics, and with what. -/
def panOf (C : Cfg) (o : Oper) (T : Nat → AV) (look : Nat → Option SObj) : Option (Bool × AV × List (Nat × SObj)) :=
  match o.op with
  | .panic x => some (true, opd T x, [])
  | .call _ => (match callOf C o T look with | some r => r.pan | none => none)
  | _ => none

/-! ### Maps -/
def mget {K V : Type} [DecidableEq K] : List (K × V) → K → Option V
  | [], _ => none
  | (a, v) :: r, k => if k = a then some v else mget r k
def mset {K V : Type} [DecidableEq K] : List (K × V) → K → V → List (K × V)
  | [], k, v => [(k, v)]
  | (a, u) :: r, k, v => if k = a then (k, v) :: r else (a, u) :: mset r k v

def mapGet (κ τ : Ty) (m : List (den κ × den τ)) (k : AV) : Option (Option (den τ)) :=
  match κ, m, k with
  | .str, m, .str k => some (mget (K := Str) m k)
  | .int j, m, .int j' k => if j = j' then some (mget (K := Int) m k) else none
  | _, _, _ => none
def mapSet (κ τ : Ty) (m : List (den κ × den τ)) (k : AV) (v : den τ) : Option (List (den κ × den τ)) :=
  match κ, m, k with
  | .str, m, .str k => some (mset (K := Str) m k v)
  | .int j, m, .int j' k => if j = j' then some (mset (K := Int) m k v) else none
  | _, _, _ => none

/-- Is it the type of these structs? -/
def isOwn (r : TR) (n : SN) : Bool :=
  match r.ty with
  | some (.st m) => decide (n = m)
  | _ => false

def isStrT (C : Cfg) (t : Nat) : Bool := match tlook C.tbl t with | some ⟨.str, _, _, _, _⟩ => true | _ => false

def aggCells : AV → Option (List AV)
  | .agg cs => some cs
  | .st n x => some (cells (.st n) x)
  | _ => none
/-- Are two structs' fields the same? -/
def leafEq : TI → AV → AV → Option Bool
  | .int _, .int j a, .int k b => if j = k then some (decide (a = b)) else none
  | .bool, .bool a, .bool b => some (a == b)
  | .str, .str a, .str b => some (decide (a = b))
  | _, _, _ => none
def eqFs (C : Cfg) : List (Nat × Nat) → List AV → List AV → Option Bool
  | [], _, _ => some true
  | (off, t) :: r, cs, ds =>
    match tlook C.tbl t, nth cs off, nth ds off with
    | some rt, some c, some d => (match leafEq rt.ti c d, eqFs C r cs ds with | some b, some b' => some (b && b') | _, _ => none)
    | _, _, _ => none
def binAgg (C : Cfg) (op : BinOp) (t : Nat) (cs ds : List AV) : Option Eff :=
  match tlook C.tbl t with
  | some ⟨.strct true fs, _, _, _, _⟩ =>
    (match eqFs C fs cs ds with
    | some b => (match op with | .eql => some (.pure (.bool b)) | .neq => some (.pure (.bool (!b))) | _ => none)
    | none => none)
  | _ => none

/-- What is read through a pointer into a row. -/
def loadRow (r : TR) (τ : Ty) (xs : List (den τ)) (i w off : Nat) : Option Eff :=
  if w = width τ then
    (match loadF r (inj τ (xs.getD i (dfl τ))) off with | some v => some ⟨some (i < xs.length), v, []⟩ | none => none)
  else none
def storeRow (r : TR) (id : Nat) (τ : Ty) (xs : List (den τ)) (i w off : Nat) (v : AV) : Option Eff :=
  if w = width τ then
    (match storeF r (inj τ (xs.getD i (dfl τ))) off v with
    | some c => (match arg τ c with | some x => some ⟨some (i < xs.length), .undef, [(id, .box (.row τ (xs.set i x)))]⟩ | none => none)
    | none => none)
  else none

def keyOK : TI → Ty → Bool
  | .str, .str => true
  | .int j, .int k => decide (j = k)
  | _, _ => false
def lookupF (C : Cfg) (t : Nat) (x k : AV) (ok : Bool) (look : Nat → Option SObj) : Option Eff :=
  match tlook C.tbl t, x with
  | some ⟨.map kt e, _, _, _, _⟩, .map id =>
    (match tlook C.tbl kt, tlook C.tbl e, look id with
    | some rk, some re, some (.map κ τ m) =>
      (match pack τ re.zero, mapGet κ τ m k with
      | some z, some g =>
        if keyOK rk.ti κ && decide (re.ty = some τ) then some (.pure (match ok with | true => .tup [inj τ (g.getD z), .bool g.isSome] | false => inj τ (g.getD z))) else none
      | _, _ => none)
    | _, _, _ => none)
  | _, _ => none

def updateF (C : Cfg) (t : Nat) (x k v : AV) (look : Nat → Option SObj) : Option Eff :=
  match tlook C.tbl t, x with
  | some ⟨.map kt _, _, _, _, _⟩, .map id =>
    (match tlook C.tbl kt, look id with
    | some rk, some (.map κ τ m) =>
      (match arg τ v with
      | some v => (match mapSet κ τ m k v with | some m => if keyOK rk.ti κ then some ⟨none, .undef, [(id, .map κ τ m)]⟩ else none | none => none)
      | none => none)
    | _, _ => none)
  | _, _ => none

/-- Is this the type of a thing that texts are written into? The type of its row's elements. -/
def bldOf (tbl : List (Nat × TR)) (e : Nat) (r : TR) : Option Nat :=
  match r.ti, r.zero with
  | .strct _ [(_, p), (_, s)], [.nilp, .nils] =>
    (match tlook tbl p, tlook tbl s with
    | some rp, some rs => (match rp.ti, rs.ti with | .ptr e', .slice u => if e' = e then some u else none | _, _ => none)
    | _, _ => none)
  | _, _ => none

def effOf (C : Cfg) (o : Oper) (T : Nat → AV) (look : Nat → Option SObj) : Option Eff :=
  match o.op with
  | .move x | .assign x => some (.pure (opd T x))
  | .pick c a b => (match opd T c with | .bool c => some (.pure (if c = true then opd T a else opd T b)) | _ => none)
  | .alloc e =>
    (match o.dst, tlook C.tbl e with
    | some d, some r =>
      (match bldOf C.tbl e r with
      | some u => (match look d with | none => some ⟨none, .bptr d, [(d, .bld e u [])]⟩ | _ => none)
      | none =>
      (match look d, (if r.isAgg then some (.agg r.zero) else (match r.zero with | [c] => some c | _ => none)) with
      | none, some c => some ⟨none, .ptr d 0, [(d, .box c)]⟩
      | _, _ => none))
    | _, _ => none)
  | .box e x =>
    (match o.dst, tlook C.tbl e with
    | some d, some r =>
      (match look d with
      | none => if (parts' (opd T x)).all leaf && lenIs (parts' (opd T x)) r.size then some ⟨none, .ptr d 0, [(d, .box (opd T x))]⟩ else none
      | _ => none)
    | _, _ => none)
  | .build t ps =>
    (match tlook C.tbl t with
    | some ⟨.strct _ fs, _, _, zero, _⟩ =>
      (match fillF fs (fun t => (tlook C.tbl t).map (·.size)) zero (ps.toList.map fun (i, x) => (i, opd T x)) with
      | some cs => some (.pure (.agg cs))
      | none => none)
    | _ => none)
  | .buildSlice t len ps =>
    (match o.dst, tlook C.tbl t with
    | some d, some ⟨.slice e, _, _, _, _⟩ =>
      (match tlook C.tbl e with
      | some ⟨_, size, _, _, some τ⟩ =>
        (match itemsF τ 0 (ps.toList.map fun (i, x) => (i, opd T x)), look d with
        | some l, none => if (lenIs l len && Nat.ble (len * size) 1000000) && (ps.toList.map fun (i, x) => (i, opd T x)).all (fun p => (parts' p.2).all leaf) then some ⟨none, .lst τ l (some d), [(d, .tail τ l.length)]⟩ else none
        | _, _ => none)
      | _ => none)
    | _, _ => none)
  | .load t a =>
    (match tlook C.tbl t with
    | some r =>
      (match opd T a with
      | .ptr id off =>
        (match look id with
        | some (.box c) => (loadF r c off).map .pure
        | _ => none)
      | .cptr c => (loadF r c 0).map .pure
      | .aptr id i w off =>
        (match look id with
        | some (.box (.row τ xs)) => loadRow r τ xs i w off
        | _ => none)
      | _ => none)
    | none => none)
  | .store t a x =>
    (match tlook C.tbl t with
    | some r =>
      (match r.size with
      | 0 => (match opd T a, parts' (opd T x) with | .ptr _ _, [] => some (.pure .undef) | _, _ => none)
      | _ + 1 =>
      (match opd T a with
      | .ptr id off =>
        (match look id with
        | some (.box c) =>
          (match storeF r c off (opd T x) with
          | some c => some ⟨none, .undef, [(id, .box c)]⟩
          | none => none)
        | _ => none)
      | .aptr id i w off =>
        (match look id with
        | some (.box (.row τ xs)) => storeRow r id τ xs i w off (opd T x)
        | _ => none)
      | _ => none))
    | none => none)
  | .nilCheck x =>
    (match opd T x with
    | .ptr id off => some (.pure (.ptr id off))
    | .cptr c => some (.pure (.cptr c))
    | .aptr id i w off => some (.pure (.aptr id i w off))
    | .fn f cs => some (.pure (.fn f cs))
    | .pt n x => some ⟨some (x.isSome = true), .cptr (.st n (x.getD (dfl (.st n)))), []⟩
    | _ => none)
  | .binOp op t x y _ =>
    (match opd T x, opd T y with
    | .int k a, .int k' b => if k = k' then binInt op k a b else none
    | .str a, .str b => binStr op a b
    | .bool a, .bool b => (match tlook C.tbl t with | some ⟨.bool, _, _, _, _⟩ => binBool op a b | _ => none)
    | .pt _ a, .nilp =>
      (match tlook C.tbl t with
      | some ⟨.ptr _, _, _, _, _⟩ => (match op with | .eql => some (.pure (.bool a.isNone)) | .neq => some (.pure (.bool a.isSome)) | _ => none)
      | _ => none)
    | .iface _ _, .nilif =>
      (match tlook C.tbl t with
      | some ⟨.iface, _, _, _, _⟩ => (match op with | .eql => some (.pure (.bool false)) | .neq => some (.pure (.bool true)) | _ => none)
      | _ => none)
    | .nilif, .nilif =>
      (match tlook C.tbl t, y with
      | some ⟨.iface, _, _, _, _⟩, .const _ => (match op with | .eql => some (.pure (.bool true)) | .neq => some (.pure (.bool false)) | _ => none)
      | _, _ => none)
    | x, y => (match aggCells x, aggCells y with | some cs, some ds => binAgg C op t cs ds | _, _ => none))
  | .unOp op _ x =>
    (match op, opd T x with
    | .not, .bool b => some (.pure (.bool (!b)))
    | .neg, .int k n => some ⟨some (inR k (0 - n)), .int k (0 - n), []⟩
    | _, _ => none)
  | .convert s d x =>
    (match tlook C.tbl s, tlook C.tbl d, opd T x with
    | some _, some ⟨.int k, _, _, _, _⟩, .int _ n => some ⟨some (inR k n), .int k n, []⟩
    | some _, some ⟨.str, _, _, _, _⟩, .str s => some (.pure (.str s))
    | _, _, _ => none)
  | .fieldAddr s x f =>
    (match tlook C.tbl s with
    | some r =>
      (match fieldOf r f, opd T x with
      | some (off, _), .ptr id o => some (.pure (.ptr id (o + off)))
      | some (off, _), .aptr id i w o => some (.pure (.aptr id i w (o + off)))
      | some (off, t), .cptr c =>
        (match off, c, tlook C.tbl t with
        | off, .st n x, some ⟨_, _, _, _, some (.st m)⟩ =>
          (match subSt n off x with
          | some (.st m' y) => if m' = m then some (.pure (.cptr (.st m' y))) else none
          | _ => (match dropN (parts' (.st n x)) off with | some (c :: r) => some (.pure (.cptr (.agg (c :: r)))) | _ => none))
        | off, c, _ => (match dropN (parts' c) off with | some (c :: r) => some (.pure (.cptr (.agg (c :: r)))) | _ => none))
      | _, _ => none)
    | none => none)
  | .field s x f =>
    (match tlook C.tbl s with
    | some r =>
      (match fieldOf r f with
      | some (off, t) =>
        (match tlook C.tbl t, opd T x with
        | some rt, .agg cs => (loadF rt (.agg cs) off).map .pure
        | some rt, .st n x => if isOwn r n then (loadF rt (.st n x) off).map .pure else none
        | _, _ => none)
      | _ => none)
    | none => none)
  | .indexAddr t x i =>
    (match tlook C.tbl t, opd T x, opd T i with
    | some ⟨.slice e, _, _, _, _⟩, .lst τ xs _, .int _ n =>
      (match tlook C.tbl e with
      | some re => if re.ty = some τ then some ⟨some (0 ≤ n ∧ n < xs.length), .cptr (inj τ (xs.getD n.toNat (dfl τ))), []⟩ else none
      | none => none)
    | some ⟨.slice e, _, _, _, _⟩, .arr id m w, .int _ n =>
      (match tlook C.tbl e with
      | some re => if re.size = w then some ⟨some (0 ≤ n ∧ n < m), .aptr id n.toNat w 0, []⟩ else none
      | none => none)
    | _, _, _ => none)
  | .index t x i =>
    (match tlook C.tbl t, opd T x, opd T i with
    | some ⟨.str, _, _, _, _⟩, .str s, .int _ n => some ⟨some (0 ≤ n ∧ n < s.length), .int .u8 ((s.getD n.toNat 0).toNat : Int), []⟩
    | _, _, _ => none)
  | .slice t x lo hi none =>
    (match tlook C.tbl t, opd T x, bnd T lo, bnd T hi with
    | some ⟨.str, _, _, _, _⟩, .str s, some l, some h =>
      some ⟨some (0 ≤ l.getD 0 ∧ l.getD 0 ≤ h.getD s.length ∧ h.getD s.length ≤ s.length), .str ((s.take (h.getD s.length).toNat).drop (l.getD 0).toNat), []⟩
    | some ⟨.slice e, _, _, _, _⟩, .lst τ xs _, some l, some h =>
      (match tlook C.tbl e with
      | some re =>
        if re.ty = some τ then
          some ⟨some (0 ≤ l.getD 0 ∧ l.getD 0 ≤ h.getD xs.length ∧ h.getD xs.length ≤ xs.length), .lst τ ((xs.take (h.getD xs.length).toNat).drop (l.getD 0).toNat) none, []⟩
        else none
      | none => none)
    | _, _, _, _ => none)
  | .extract x i => (match opd T x with | .tup vs => (nth vs i).map .pure | _ => none)
  | .call { callee := .builtin .len, args, argTypes } =>
    (match args.toList, argTypes.toList with
    | [x], [t] =>
      (match tlook C.tbl t, opd T x with
      | some ⟨.str, _, _, _, _⟩, .str s => some (.pure (.int .i64 (s.length : Int)))
      | some ⟨.slice _, _, _, _, _⟩, .lst _ xs _ => some (.pure (.int .i64 (xs.length : Int)))
      | some ⟨.slice _, _, _, _, _⟩, .nils => some (.pure (.int .i64 0))
      | some ⟨.slice _, _, _, _, _⟩, .arr _ n _ => some (.pure (.int .i64 n))
      | some ⟨.map _ _, _, _, _, _⟩, .map id => (match look id with | some (.map _ _ m) => some ⟨some (m.length ≤ 9223372036854775807), .int .i64 (m.length : Int), []⟩ | _ => none)
      | _, _ => none)
    | _, _ => none)
  | .call { callee := .builtin .append, args, argTypes } =>
    (match args.toList, argTypes.toList, o.dst with
    | [x, y], [t, t'], some d => if t == t' then appendF C t d (opd T x) (opd T y) look else none
    | _, _, _ => none)
  | .call { callee := .builtin .max, args, .. } =>
    (match args.toList with
    | [x, y] => (match opd T x, opd T y with | .int k a, .int k' b => if k = k' then some (.pure (.int k (max a b))) else none | _, _ => none)
    | _ => none)
  | .call { callee := .builtin .min, args, .. } =>
    (match args.toList with
    | [x, y] => (match opd T x, opd T y with | .int k a, .int k' b => if k = k' then some (.pure (.int k (min a b))) else none | _, _ => none)
    | _ => none)
  | .call { callee := .builtin _, .. } => none
  | .call _ => (match callOf C o T look with | some r => some r.eff | none => none)
  | .makeFunc (.func f) first caps => if first.isEmpty then some (.pure (.fn f (caps.toList.map (opd T)))) else none
  | .makeInterface t x => (match tlook C.tbl t with | some r => (match r.ti with | .iface => none | _ => some (.pure (.iface t (opd T x)))) | none => none)
  | .typeAssert x _ t true =>
    (match opd T x, tlook C.tbl t with
    | .iface t' a, some r => (match r.ti with | .iface => none | _ => if t' = t then some (.pure (.tup [a, .bool true])) else none)
    | _, _ => none)
  | .panic x => (match opd T x with | .iface _ _ => some (.pure .undef) | _ => none)
  | .makeMap t h =>
    (match o.dst, tlook C.tbl t with
    | some d, some ⟨.map k e, _, _, _, _⟩ =>
      (match tlook C.tbl k, tlook C.tbl e, look d with
      | some ⟨_, _, _, _, some κ⟩, some ⟨_, _, _, _, some τ⟩, none =>
        (match h.map (opd T) with
        | none | some (.int _ _) => some ⟨none, .map d, [(d, .map κ τ [])]⟩
        | _ => none)
      | _, _, _ => none)
    | _, _ => none)
  | .lookup t x k ok => lookupF C t (opd T x) (opd T k) ok look
  | .mapUpdate t x k v => updateF C t (opd T x) (opd T k) (opd T v) look
  | .insert t x k v => updateF C t (opd T x) (opd T k) (opd T v) look
  | .makeSlice t n c =>
    (match o.dst, tlook C.tbl t, opd T n, opd T c with
    | some d, some ⟨.slice e, _, _, _, _⟩, .int .i64 a, .int .i64 b =>
      (match tlook C.tbl e, look d with
      | some ⟨_, size, bytes, zero, some τ⟩, none =>
        (match pack τ zero with
        | some z =>
          (match n with
          | .const (.int _ (.ofNat 0)) => some ⟨some (0 ≤ b ∧ b * bytes ≤ 140737488355328), .lst τ [] (some d), [(d, .tail τ 0)]⟩
          | _ => some ⟨some (0 ≤ a ∧ a ≤ b ∧ b * bytes ≤ 140737488355328), .arr d a.toNat size, [(d, .box (.row τ (List.replicate a.toNat z)))]⟩)
        | none => none)
      | _, _ => none)
    | _, _, _, _ => none)
  | _ => none

/-! ### Runs -/
def putT (t : List (Nat × AV)) (d : Option Nat) (v : AV) : List (Nat × AV) :=
  match d with
  | some d => tset t d v
  | none => t
def putB : List (Nat × SObj) → List (Nat × SObj) → List (Nat × SObj)
  | b, [] => b
  | b, (i, o) :: r => putB (bset b i o) r

def St.put (s : St) (d : Option Nat) (e : Eff) : St := ⟨putT s.t d e.val, putB s.b e.upd⟩

def isGuard (ops : List Oper) (i : Nat) : Bool := ops.any fun o => match o.guard with | some (j, _) => j == i | none => false

def sp (b : Bool) (p q : Prop) : Prop := if b = true then p else q

/-- A demand ahead of what follows. -/
def addOb : Option Prop → Prop → Prop
  | none, q => q
  | some p, q => p ∧ q

abbrev Foot := List Nat × List Nat

/-- The operations of a region in the order of the text; footprints are gathered; what becomes of a panic. -/
def runOps (C : Cfg) (ops : List Oper) (draw : Bool) (kp : AV → St → Prop) : List Oper → Nat → St → List Foot → (St → List Foot → Prop) → Prop
  | [], _, s, fs, k => k s fs.reverse
  | o :: r, i, s, fs, k =>
    let on : Unit → Prop := fun _ =>
      match effOf C o (tget s.t) (bget s.b) with
      | none => False
      | some e =>
        addOb e.ob
        (match panOf C o (tget s.t) (bget s.b) with
        | none =>
          (match isGuard ops i, e.val with
          | true, .bool b =>
            sp b (runOps C ops draw kp r (i + 1) (s.put o.dst { e with val := .bool true }) ((need C o (tget s.t) (bget s.b), e.upd.map (·.1)) :: fs) k)
              (runOps C ops draw kp r (i + 1) (s.put o.dst { e with val := .bool false }) ((need C o (tget s.t) (bget s.b), e.upd.map (·.1)) :: fs) k)
          | true, _ => False
          | false, _ => runOps C ops draw kp r (i + 1) (s.put o.dst e) ((need C o (tget s.t) (bget s.b), e.upd.map (·.1)) :: fs) k)
        | some (b, pv, u) =>
          (match draw || isGuard ops i with
          | true => False
          | false => sp b (kp pv ⟨s.t, putB s.b u⟩) (runOps C ops draw kp r (i + 1) (s.put o.dst e) ((need C o (tget s.t) (bget s.b), e.upd.map (·.1)) :: fs) k)))
    let off : Unit → Prop := fun _ => runOps C ops draw kp r (i + 1) ⟨putT s.t o.dst (.tup []), s.b⟩ (([], []) :: fs) k
    match o.guard with
    | none => on ()
    | some (j, want) =>
      match (nth ops j).bind (·.dst) with
      | none => False
      | some d =>
        match tget s.t d with
        | .bool true => if want then on () else off ()
        | .bool false => if want then off () else on ()
        | .tup [] => off ()
        | _ => False

/-! ### Which operations may change places -/
def tmpsOf (o : Oper) : List Nat := o.op.operands.toList.filterMap fun | .tmp t => some t | _ => none
def looksT (ops : List Oper) (o : Oper) : List Nat :=
  tmpsOf o ++ (match o.guard with | some (g, _) => ((nth ops g).bind (·.dst)).toList | none => [])
def disj (a b : List Nat) : Bool := a.all fun x => !b.contains x
def apartT (ops : List Oper) (x y : Oper) : Bool :=
  (match x.dst with | some d => !(looksT ops y).contains d && !(y.dst == some d) | none => true) &&
  (match y.dst with | some d => !(looksT ops x).contains d | none => true)
def apartF (f g : Foot) : Bool := disj f.2 (g.1 ++ g.2) && disj g.2 f.1
/-- All that must stand ahead of an operation, for each operation, from the first one on: the bits of a number. -/
def aheadM (acc : List Nat) (o : Oper) : Nat := (o.after.toList.filter (Region.binds .any)).foldl (init := 0) fun m e => m ||| 2 ^ e.on ||| acc.getD e.on 0
def aheads (ops : List Oper) : List Nat := ops.foldl (init := []) fun acc o => acc ++ [aheadM acc o]
def indepAll (ops : List Oper) (fs : List Foot) : Bool :=
  ((List.range ops.length).all fun j => (List.range j).all fun i =>
    ((aheads ops).getD j 0).testBit i ||
    (match nth ops i, nth ops j, nth fs i, nth fs j with
      | some x, some y, some f, some g => apartT ops x y && apartF f g
      | _, _, _, _ => false)) &&
  (ops.zipIdx.all fun (o, j) => o.after.all fun e => !Region.binds .any e || Nat.blt e.on j)

/-! ### Leaving slots behind -/
def namesNone (A : List Nat) (s : St) : Bool := (s.t.all fun x => disj (ids x.2) A) && (s.b.all fun x => disj (objIds x.2) A)
def allocsOf (ops : List Oper) : List Nat :=
  ops.filterMap fun o => match o.op with
    | .alloc _ | .box .. | .buildSlice .. | .makeSlice .. | .makeMap .. | .call { callee := .builtin .append, .. } => o.dst
    | _ => none
def callsOf (ops : List Oper) : List Nat :=
  ops.filterMap fun o => match o.op with
    | .call { callee := .value _, .. } => o.dst
    | _ => none
/-- Slots of things that these operations make. -/
def famOf (ds cs : List Nat) (i : Nat) : Bool := ds.contains i || (Nat.ble 1000 i && cs.contains (i % 1000))
/-- The slots of the region's own new things go, if any of them is there from before. -/
def enter (ops : List Oper) (s : St) : Option St :=
  let A := (s.b.map (·.1)).filter fun i => famOf (allocsOf ops) (callsOf ops) i && !isLent i
  if A.isEmpty then some s else
    let s' : St := ⟨s.t.filter fun x => !A.contains x.1, s.b.filter fun x => !A.contains x.1⟩
    if namesNone A s' then some s' else none

/-! ### Slots made fast -/
mutual
def pubV (id : Nat) (c : AV) : AV → AV
  | .ptr i o => (match o with | 0 => if i = id then .cptr c else .ptr i 0 | o + 1 => .ptr i (o + 1))
  | .arr i n w => if i = id then (match c with | .row τ xs => if w = width τ then .lst τ (xs.take n) none else .arr i n w | _ => .arr i n w) else .arr i n w
  | .cptr d => .cptr (pubV id c d)
  | .agg cs => .agg (pubVs id c cs)
  | .tup cs => .tup (pubVs id c cs)
  | .fn f cs => .fn f (pubVs id c cs)
  | .iface t a => .iface t (pubV id c a)
  | a => a
def pubVs (id : Nat) (c : AV) : List AV → List AV
  | [] => []
  | a :: r => pubV id c a :: pubVs id c r
end
def pubO (id : Nat) (c : AV) : SObj → SObj
  | .box d => .box (pubV id c d)
  | o => o
def pub1 (id : Nat) (s : St) : Option St :=
  match bget s.b id with
  | some (.box c) =>
    let s' : St := ⟨s.t.map fun x => (x.1, pubV id c x.2), (s.b.filter fun x => !(x.1 == id)).map fun x => (x.1, pubO id c x.2)⟩
    if namesNone [id] s' && disj (ids c) [id] && !isLent id then some s' else none
  | _ => none
def pubAll : List Nat → St → Option St
  | [], s => some s
  | i :: r, s => (match pub1 i s with | some s => pubAll r s | none => none)

/-! ### Weaker states -/
def LeF (G : List Nat) : AV → AV → Prop
  | _, .undef => True
  | .int k n, .int k' n' => if k = k' then n = n' else False
  | .bool b, .bool b' => b = b'
  | .str s, .str s' => s = s'
  | .lst τ xs o, .lst σ ys p => (match castL τ σ xs with | some xs => xs = ys | none => False) ∧ (if p = none ∨ p = o then True else False)
  | .nils, .lst _ ys p => (match p with | none => True | some k => if G.contains k = true then True else False) ∧ ys = []
  | .nils, .nils => True
  | .nilp, .nilp => True
  | .ptr i o, .ptr j p => if i = j ∧ o = p then True else False
  | .st n x, .st m y => (match castS n m x with | some x => x = y | none => False)
  | .row τ xs, .row σ ys => (match castL τ σ xs with | some xs => xs = ys | none => False)
  | .arr i n w, .arr j m v => if i = j ∧ w = v then n = m else False
  | .aptr i n w o, .aptr j m v p => if i = j ∧ w = v ∧ o = p then n = m else False
  | .map i, .map j => if i = j then True else False
  | .bptr i, .bptr j => if i = j then True else False
  | .pt n x, .pt m y => (match castO n m x with | some x => x = y | none => False)
  | .nilp, .pt _ y => y = none
  | .nilif, .nilif => True
  | _, _ => False
def LeFs (G : List Nat) : List AV → List AV → Prop
  | [], [] => True
  | a :: r, b :: s => LeF G a b ∧ LeFs G r s
  | _, _ => False
/-- As many cells. -/
def noAgg : AV → AV → Prop
  | .agg _, .undef => False
  | .st _ _, .undef => False
  | .row _ _, .undef => False
  | _, _ => True
mutual
def LeV (G : List Nat) : AV → AV → Prop
  | .cptr c, .cptr d => noAgg c d ∧ LeV G c d
  | .cptr (.st n x), .pt m y => (match castS n m x with | some x => some x = y | none => False)
  | .iface t a, .iface u b => (if t = u then True else False) ∧ LeV G a b
  | .agg cs, .st m y => LeFs G cs (cells (.st m) y)
  | .st n x, .agg ds => LeFs G (cells (.st n) x) ds
  | .agg cs, .agg ds => LeL G cs ds
  | .tup cs, .tup ds => LeL G cs ds
  | .fn f cs, .fn g ds => (if f = g then True else False) ∧ LeL G cs ds
  | a, b => LeF G a b
def LeL (G : List Nat) : List AV → List AV → Prop
  | [], [] => True
  | a :: r, b :: s => LeV G a b ∧ LeL G r s
  | _, _ => False
end

def castM (κ τ κ' τ' : Ty) (m : List (den κ × den τ)) : Option (List (den κ' × den τ')) := if h : κ = κ' ∧ τ = τ' then some (h.1 ▸ h.2 ▸ m) else none

def LeT (G : List Nat) (s : St) : List (Nat × AV) → Prop
  | [] => True
  | (i, a) :: r => LeV G (tget s.t i) a ∧ LeT G s r
def LeB (G : List Nat) (s : St) : List (Nat × SObj) → Prop
  | [] => True
  | (i, .box d) :: r => (match bget s.b i with | some (.box c) => noAgg c d ∧ LeV G c d | _ => False) ∧ LeB G s r
  | (i, .tail τ n) :: r => (match bget s.b i with | some (.tail σ m) => (if σ = τ then m = n else False) | none => n = 0 | _ => False) ∧ LeB G s r
  | (i, .map κ τ m) :: r => (match bget s.b i with | some (.map κ' τ' m') => (match castM κ' τ' κ τ m' with | some m' => m' = m | none => False) | _ => False) ∧ LeB G s r
  | (i, .bld t u l) :: r => (match bget s.b i with | some (.bld t' u' l') => (if t' = t ∧ u' = u then l' = l else False) | _ => False) ∧ LeB G s r
def keysOf {α : Type} (l : List (Nat × α)) : List Nat := l.map (·.1)
/-- Slots that begin here: tokens of slices that are nil. -/
def ghosts (s s' : St) : List Nat := (keysOf s'.b).filter fun i => (bget s.b i).isNone
def LeS (s s' : St) : Prop :=
  (if namesNone ((keysOf s.b).filter fun i => !(keysOf s'.b).contains i) s' && ((keysOf s.b).filter fun i => !(keysOf s'.b).contains i).all (fun i => !isLent i) then True else False) ∧ LeT (ghosts s s') s s'.t ∧ LeB (ghosts s s') s s'.b

/-! ### The same, said shortly -/
def chk (b : Bool) (k : Prop) : Prop := match b with | true => k | false => False
def cF (G : List Nat) (a b : AV) (k : Prop) : Prop :=
  match a, b with
  | _, .undef => k
  | .int j n, .int j' n' => chk (decide (j = j')) (n = n' ∧ k)
  | .bool b, .bool b' => b = b' ∧ k
  | .str s, .str s' => s = s' ∧ k
  | .lst τ xs o, .lst σ ys p => (match castL τ σ xs with | some xs => chk (decide (p = none ∨ p = o)) (xs = ys ∧ k) | none => False)
  | .nils, .lst _ ys p => (match p with | none => ys = [] ∧ k | some i => chk (G.contains i) (ys = [] ∧ k))
  | .nils, .nils => k
  | .nilp, .nilp => k
  | .ptr i o, .ptr j p => chk (decide (i = j ∧ o = p)) k
  | .st n x, .st m y => (match castS n m x with | some x => x = y ∧ k | none => False)
  | .row τ xs, .row σ ys => (match castL τ σ xs with | some xs => xs = ys ∧ k | none => False)
  | .arr i n w, .arr j m v => chk (decide (i = j ∧ w = v)) (n = m ∧ k)
  | .aptr i n w o, .aptr j m v p => chk (decide (i = j ∧ w = v ∧ o = p)) (n = m ∧ k)
  | .map i, .map j => chk (decide (i = j)) k
  | .bptr i, .bptr j => chk (decide (i = j)) k
  | .pt n x, .pt m y => (match castO n m x with | some x => x = y ∧ k | none => False)
  | .nilp, .pt _ y => y = none ∧ k
  | .nilif, .nilif => k
  | _, _ => False
def cFs (G : List Nat) : List AV → List AV → Prop → Prop
  | [], [], k => k
  | a :: r, b :: s, k => cF G a b (cFs G r s k)
  | _, _, _ => False
def noAggB : AV → AV → Bool
  | .agg _, .undef => false
  | .st _ _, .undef => false
  | .row _ _, .undef => false
  | _, _ => true
mutual
def cV (G : List Nat) : AV → AV → Prop → Prop
  | .cptr c, .cptr d, k => chk (noAggB c d) (cV G c d k)
  | .cptr (.st n x), .pt m y, k => (match castS n m x with | some x => some x = y ∧ k | none => False)
  | .iface t a, .iface u b, k => chk (Nat.beq t u) (cV G a b k)
  | .agg cs, .st m y, k => cFs G cs (cells (.st m) y) k
  | .st n x, .agg ds, k => cFs G (cells (.st n) x) ds k
  | .agg cs, .agg ds, k => cL G cs ds k
  | .tup cs, .tup ds, k => cL G cs ds k
  | .fn f cs, .fn g ds, k => chk (Nat.beq f g) (cL G cs ds k)
  | a, b, k => cF G a b k
def cL (G : List Nat) : List AV → List AV → Prop → Prop
  | [], [], k => k
  | a :: r, b :: s, k => cV G a b (cL G r s k)
  | _, _, _ => False
end
def cT (G : List Nat) (s : St) : List (Nat × AV) → Prop → Prop
  | [], k => k
  | (i, a) :: r, k => cV G (tget s.t i) a (cT G s r k)
def cB (G : List Nat) (s : St) : List (Nat × SObj) → Prop
  | [] => True
  | (i, .box d) :: r => (match bget s.b i with | some (.box c) => chk (noAggB c d) (cV G c d (cB G s r)) | _ => False)
  | (i, .tail τ n) :: r =>
    (match bget s.b i with
    | some (.tail σ m) => chk (decide (σ = τ)) (m = n ∧ cB G s r)
    | none => n = 0 ∧ cB G s r
    | _ => False)
  | (i, .map κ τ m) :: r => (match bget s.b i with | some (.map κ' τ' m') => (match castM κ' τ' κ τ m' with | some m' => m' = m ∧ cB G s r | none => False) | _ => False)
  | (i, .bld t u l) :: r => (match bget s.b i with | some (.bld t' u' l') => chk (decide (t' = t ∧ u' = u)) (l' = l ∧ cB G s r) | _ => False)
def cS (s s' : St) : Prop :=
  chk (namesNone ((keysOf s.b).filter fun i => !(keysOf s'.b).contains i) s' && ((keysOf s.b).filter fun i => !(keysOf s'.b).contains i).all (fun i => !isLent i))
    (cT (ghosts s s') s s'.t (cB (ghosts s s') s s'.b))

/-! ### Code -/
inductive SX where
  | normal | exit (id : Nat) | ret | pan (v : AV)

/-- What is said of a loop: a family of states, its members that may be, and a measure. -/
structure LA where
  ι : Type
  pre : ι → Prop
  t : ι → List (Nat × AV)
  b : ι → List (Nat × SObj)
  m : ι → Nat

/-- Loops by the first region in their bodies; slots made fast ahead of a region. -/
structure An where
  l : List (Nat × (St → LA))
  p : List (Nat × List Nat)

def plook : List (Nat × List Nat) → Nat → List Nat
  | [], _ => []
  | (j, x) :: r, i => if j == i then x else plook r i

/-- All slots that code writes. -/
def assigned : Code → List Nat
  | .region _ ops _ => ops.toList.filterMap (·.dst)
  | .seq a b => assigned a ++ assigned b
  | .cond _ a b => assigned a ++ assigned b
  | .block _ c | .loop c | .scope c => assigned c
  | _ => []

/-- The state at a loop's head: what stood there ahead of it, but for what the loop writes; and what is said of it. -/
def loopSt (D : List Nat) (s : St) (ts : List (Nat × AV)) (bs : List (Nat × SObj)) : St :=
  ⟨ts ++ s.t.filter fun x => !D.contains x.1 && !(keysL ts).contains x.1, bs ++ s.b.filter fun x => !(famOf D D x.1 && !isLent x.1) && !(keysL bs).contains x.1⟩
where keysL {α : Type} (l : List (Nat × α)) : List Nat := l.map (·.1)

def firstRegion : Code → Option Nat
  | .region id _ _ => some id
  | .seq a b => (firstRegion a).or (firstRegion b)
  | .cond _ a b => (firstRegion a).or (firstRegion b)
  | .block _ c | .loop c | .scope c => firstRegion c
  | _ => none

def alook (l : List (Nat × (St → LA))) (i : Nat) : Option (St → LA) :=
  match l with
  | [] => none
  | (j, a) :: r => if j == i then some a else alook r i
/-- What is said of a loop, by a number that stands at hand ahead of it. -/
def withI (s : St) (t : Nat) (f : Int → LA) : LA := match tget s.t t with | .int _ n => f n | _ => ⟨Nat, fun _ => False, fun _ => [], fun _ => [], fun _ => 0⟩

/-! ### States written out -/
mutual
def forceV : AV → (AV → Prop) → Prop
  | .undef, k => k .undef
  | .int κ n, k => k (.int κ n)
  | .bool b, k => k (.bool b)
  | .str s, k => k (.str s)
  | .lst τ xs none, k => k (.lst τ xs none)
  | .lst τ xs (some i), k => k (.lst τ xs (some i))
  | .nils, k => k .nils
  | .ptr i o, k => k (.ptr i o)
  | .cptr c, k => forceV c fun c => k (.cptr c)
  | .nilp, k => k .nilp
  | .st n x, k => k (.st n x)
  | .agg cs, k => forceL cs fun cs => k (.agg cs)
  | .tup cs, k => forceL cs fun cs => k (.tup cs)
  | .fn f cs, k => forceL cs fun cs => k (.fn f cs)
  | .row τ xs, k => k (.row τ xs)
  | .arr i n w, k => k (.arr i n w)
  | .aptr i n w o, k => k (.aptr i n w o)
  | .map i, k => k (.map i)
  | .bptr i, k => k (.bptr i)
  | .iface t a, k => forceV a fun a => k (.iface t a)
  | .nilif, k => k .nilif
  | .pt n x, k => k (.pt n x)
def forceL : List AV → (List AV → Prop) → Prop
  | [], k => k []
  | a :: r, k => forceV a fun a => forceL r fun r => k (a :: r)
end
def forceT : List (Nat × AV) → (List (Nat × AV) → Prop) → Prop
  | [], k => k []
  | (i, a) :: r, k => forceV a fun a => forceT r fun r => k ((i, a) :: r)
def forceB : List (Nat × SObj) → (List (Nat × SObj) → Prop) → Prop
  | [], k => k []
  | (i, .box c) :: r, k => forceV c fun c => forceB r fun r => k ((i, .box c) :: r)
  | (i, .tail τ n) :: r, k => forceB r fun r => k ((i, .tail τ n) :: r)
  | (i, .map κ τ m) :: r, k => forceB r fun r => k ((i, .map κ τ m) :: r)
  | (i, .bld t u l) :: r, k => forceB r fun r => k ((i, .bld t u l) :: r)
def force (s : St) (k : St → Prop) : Prop := forceT s.t fun t => forceB s.b fun b => k ⟨t, b⟩

/-- What is read in a region ahead of being written there; what a test reads. -/
def exposed : List Oper → List Nat → List Oper → List Nat
  | _, _, [] => []
  | ops, w, o :: r => ((looksT ops o).filter fun t => !w.contains t) ++ exposed ops (o.dst.toList ++ w) r
def readsOf : Code → List Nat
  | .region _ ops _ => exposed ops.toList [] ops.toList
  | .seq a b => readsOf a ++ readsOf b
  | .cond (.tmp t) a b => t :: (readsOf a ++ readsOf b)
  | .cond _ a b => readsOf a ++ readsOf b
  | .block _ c | .loop c | .scope c => readsOf c
  | _ => []
def resTmp : ResultVar → Nat
  | .tmp t => t
  | .cell a _ => a
/-- The temporaries that live beyond a region. -/
def keepOf (fn : Func) (c : Code) : List Nat := (readsOf c ++ fn.results.toList.map resTmp).eraseDups
def trim (keep : List Nat) (s : St) : St := ⟨s.t.filter fun x => keep.contains x.1, s.b⟩
def forceNs : List Nat → (List Nat → Prop) → Prop
  | [], k => k []
  | 0 :: r, k => forceNs r fun r => k (0 :: r)
  | (n + 1) :: r, k => forceNs r fun r => k ((n + 1) :: r)

/-- What a test has told. -/
def setC (c : Operand) (v : Bool) (s : St) : St :=
  match c with
  | .tmp t => ⟨tset s.t t (.bool v), s.b⟩
  | _ => s

/-! ### A loop that lays a map's keys into another map -/
structure KL where
  m1 : Nat
  src : Operand
  it : Nat
  t : Nat
  nx : Nat
  c : Nat
  en : Nat
  k1 : Nat
  kv : Nat
  d1 : Nat
  dst : Nat
  k2 : Nat
  t2 : Nat
  n : Int
def KL.wr (L : KL) : List Nat := [L.m1, L.it, L.nx, L.c, L.en, L.k1, L.kv, L.d1, L.k2]
def keysL : Code → Code → Option KL
  | .region _ r1 false, .block x (.loop (.seq (.region _ r2 false) (.seq (.cond (.tmp c) .skip (.exit x2)) (.block _ (.seq (.region _ r3 false) (.region _ r4 false)))))) =>
    match r1.toList, r2.toList, r3.toList, r4.toList with
    | [⟨some m1, .move src, _, _, _, none⟩, ⟨some it, .range t (.tmp m1'), _, _, _, none⟩],
      [⟨some nx, .next (.tmp it') false, _, _, _, none⟩, ⟨some c', .extract (.tmp nx') 0, _, _, _, none⟩],
      [⟨some en, .entry (.tmp it''), _, _, _, none⟩, ⟨some k1, .extract (.tmp en') 0, _, _, _, none⟩, ⟨some kv, .assign (.tmp k1'), _, _, _, none⟩],
      [⟨some d1, .move (.tmp dst), _, _, _, none⟩, ⟨some k2, .move (.tmp kv'), _, _, _, none⟩, ⟨none, .mapUpdate t2 (.tmp d1') (.tmp k2') (.const (.int .i64 n)), _, _, _, none⟩] =>
      if x2 == x && m1' == m1 && it' == it && it'' == it && nx' == nx && c' == c && en' == en && k1' == k1 && kv' == kv && d1' == d1 && k2' == k2 && okC .i64 n
        && distinct [m1, it, nx, c, en, k1, kv, d1, k2, dst] then
        some ⟨m1, src, it, t, nx, c, en, k1, kv, d1, dst, k2, t2, n⟩ else none
    | _, _, _, _ => none
  | _, _ => none
/-- The keys of the one, and what the other holds already; in what order, nobody knows. -/
def keysR (C : Cfg) (L : KL) (s : St) (Q : SX → St → Prop) : Prop :=
  match opd (tget s.t) L.src, tget s.t L.dst with
  | .map i, .map j =>
    match bget s.b i, bget s.b j, tlook C.tbl L.t, tlook C.tbl L.t2 with
    | some (.map .str _ m), some (.map .str (.int .i64) d), some ⟨.map _ _, _, _, _, _⟩, some ⟨.map kt _, _, _, _, _⟩ =>
      (match tlook C.tbl kt with
      | some rk =>
        if (keyOK rk.ti .str && !(i == j)) = true then
          ∀ d' : List (Str × Int), (d'.map (·.1)).Nodup → (∀ k, mget d' k = if (mget m k).isSome = true then some L.n else mget d k) →
            Q .normal ⟨s.t.filter fun x => !L.wr.contains x.1, bset s.b j (.map .str (.int .i64) d')⟩
        else False
      | none => False)
    | _, _, _, _ => False
  | _, _ => False

def swp (C : Cfg) (keep : List Nat) (ann : An) : Code → St → (SX → St → Prop) → Prop
  | .skip, s, Q => Q .normal s
  | .seq a b, s, Q =>
    match keysL a b with
    | some L => keysR C L s fun x s => force s fun s => Q x s
    | none => swp C keep ann a s fun
      | .normal, s' => swp C keep ann b s' Q
      | e, s' => Q e s'
  | .cond c a b, s, Q =>
    match opd (tget s.t) c with
    | .bool b' => sp b' (swp C keep ann a (setC c true s) Q) (swp C keep ann b (setC c false s) Q)
    | _ => False
  | .block id c, s, Q => swp C keep ann c s fun
    | .exit j, s' => if j == id then Q .normal s' else Q (.exit j) s'
    | e, s' => Q e s'
  | .exit id, s, Q => Q (.exit id) s
  | .ret, s, Q => Q .ret s
  | .region id ops draw, s, Q =>
    match pubAll (plook ann.p id) s with
    | none => False
    | some s =>
      match enter ops.toList s with
      | none => False
      | some s =>
        runOps C ops.toList draw (fun v s => force s fun s => forceV v fun v => Q (.pan v) s) ops.toList 0 s [] fun s' fs => force (trim keep s') fun s' =>
          if draw then (if indepAll ops.toList fs then Q .normal s' else False) else Q .normal s'
  | .loop c, s, Q =>
    match ((firstRegion c).bind (alook ann.l)).map (fun A => A s) with
    | none => False
    | some A =>
      (∃ x, A.pre x ∧ force (loopSt (assigned c) s (A.t x) (A.b x)) fun i => cS s i) ∧
      ∀ x, A.pre x → force (loopSt (assigned c) s (A.t x) (A.b x)) fun i => swp C keep ann c i fun
        | .normal, s' => ∃ y, A.pre y ∧ A.m y < A.m x ∧ force (loopSt (assigned c) s (A.t y) (A.b y)) fun i => cS s' i
        | e, s' => Q e s'
  | _, _, _ => False

/-- What the function hands back. -/
def resOf (tbl : List (Nat × TR)) (s : St) : List ResultVar → Option (List AV)
  | [] => some []
  | .tmp t :: r => (match resOf tbl s r with | some l => some (tget s.t t :: l) | none => none)
  | .cell a t :: r =>
    (match tget s.t a, tlook tbl t with
      | .ptr id off, some rt =>
        (match bget s.b id with
        | some (.box c) => (match loadF rt c off, resOf tbl s r with | some v, some l => some (v :: l) | _, _ => none)
        | _ => none)
      | _, _ => none)

def initT : Nat → List AV → List (Nat × AV)
  | _, [] => []
  | i, a :: r => (i, a) :: initT (i + 1) r

/-- The results, and the slots, are what is promised. -/
def endOK (res : Option (List AV)) (s : St) (val : AV) (b : List (Nat × SObj)) : Prop :=
  match res with
  | some [a] => cS ⟨[(0, a)], s.b⟩ ⟨[(0, val)], b⟩
  | some l => (match val with | .tup rs => if lenIs l rs.length then cS ⟨initT 0 l, s.b⟩ ⟨initT 0 rs, b⟩ else False | _ => False)
  | none => False

/-- Every operation's slot is one of the frame's. -/
def dstsOK (n : Nat) : Code → Bool
  | .region _ ops _ => ops.toList.all fun o => match o.dst with | some d => Nat.blt d n | none => true
  | .seq a b => dstsOK n a && dstsOK n b
  | .cond _ a b => dstsOK n a && dstsOK n b
  | .block _ c => dstsOK n c
  | .loop c => dstsOK n c
  | _ => true

def fwp (C : Cfg) (ann : An) (fn : Func) (args : List AV) (S : List (Nat × SObj)) (A : Ans) : Prop :=
  match fn.body with
  | none => False
  | some c =>
    match dstsOK fn.ntmps c && lenLe args fn.ntmps && (keysOf S).all isLent with
    | false => False
    | true => forceNs (keepOf fn c) fun keep => force ⟨initT 0 args, S⟩ fun i => swp C keep ann c i fun
      | .exit _, _ => False
      | .pan v, s => (match A.pan with | some (b, pv, u) => b = true ∧ cS ⟨[(0, v)], s.b⟩ ⟨[(0, pv)], putB S u⟩ | none => False)
      | _, s => (match A.pan with | some (b, _, _) => b = false | none => True) ∧ endOK (resOf C.tbl s fn.results.toList) s A.val (putB S A.upd)

end Go.AL
