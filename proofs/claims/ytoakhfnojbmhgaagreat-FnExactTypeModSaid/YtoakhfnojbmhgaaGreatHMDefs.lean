/- A small machine over an abstract memory: what it computes, the machine of the model computes too (HMSound). -/
import Derived.WalkKit
set_option linter.unusedSimpArgs false
set_option linter.unusedVariables false
namespace Go.HM

inductive V where
  | int (k : IntKind) (n : Int)
  | bool (b : Bool)
  | str (s : ByteArray)
  | ptr (r off : Nat)
  | nilp
  | sl (r off len : Nat) (lim : Bool)
  | nils
  | emp
  | fn (f : FuncId) (cap : List V)
  | nilf
  | iface (t : TypeId) (v : V)
  | nili
  | agg (cs : List V)
  | tuple (vs : List V)

instance : Inhabited V := ⟨.nilp⟩

/-- What is known of a temporary: nothing; a value; a private block's content (the temporary is the block's address); a place in the private block of a temporary; a private array, as a slice of all of it. -/
inductive T where
  | bot
  | v (x : V)
  | box (cs : List V)
  | ref (t off : Nat)
  | arr (cs : List V) (n : Nat)

/-- A row of memory; ty: one more than its block's type, where that is known. -/
structure Row where
  cells : List V
  esz : Nat
  ro : Bool
  ty : Nat

abbrev Heap := List (Option Row)

inductive Ex where
  | normal
  | exit (id : Nat)
  | ret

def ofCell : Value → Option V
  | .bool b => some (.bool b)
  | .int k n => some (.int k n)
  | .string s => some (.str s)
  | .pointer none => some .nilp
  | .slice none 0 0 => some .nils
  | .nilFunc => some .nilf
  | .nilIface => some .nili
  | _ => none

def ofCells : List Value → Option (List V)
  | [] => some []
  | v :: vs => (ofCell v).bind fun x => (ofCells vs).bind fun xs => some (x :: xs)

def ofValue : Value → Option V
  | .agg cs => (ofCells cs.toList).bind fun l => some (.agg l)
  | v => ofCell v

def V.cells : V → List V
  | .agg cs => cs
  | v => [v]

def V.isTuple : V → Bool
  | .tuple _ => true
  | _ => false

/-- One cell alone. -/
def V.flat : V → Bool
  | .tuple _ => false
  | .agg _ => false
  | _ => true

/-- What nobody has set. -/
abbrev undefT : T := .v (.tuple [])

/-- What is the operand. -/
def ev (t : List T) : Operand → T
  | .tmp i => match t[i]? with
    | some (.box _) => .ref i 0
    | some x => x
    | none => .bot
  | .const c => match ofValue c with
    | some x => .v x
    | none => .bot
  | .func f => .v (.fn f [])
  | .global g => if g < 64 then .v (.ptr g 0) else .bot

section
variable {α : Type}
def evV (t : List T) (o : Operand) (K : V → Option α) : Option α := match ev t o with
  | .v x => K x
  | _ => none

def evA (t : List T) (o : Operand) (K : T → Option α) : Option α := match ev t o with
  | .arr _ _ => none
  | .box _ => none
  | x => K x

/-- The address of a place: in a private block, or of a row. -/
def evP (t : List T) (o : Operand) (K : Nat → Nat → Option α) (K' : Nat → Nat → Option α) : Option α := match ev t o with
  | .ref d off => (match t[d]? with
    | some (.box _) => K d off
    | _ => none)
  | .v x => (match x with
    | .ptr r off => K' r off
    | _ => none)
  | _ => none

def evs (t : List T) : List Operand → (List V → Option α) → Option α
  | [], K => K []
  | o :: os, K => evV t o fun x => evs t os fun xs => K (x :: xs)

def castInt (k : IntKind) (c : V) (K : Int → Option α) : Option α := match c with
  | .int k' n => if k' = k then K n else none
  | _ => none
def castIdx (c : V) (K : Int → Option α) : Option α := match c with
  | .int _ n => K n
  | _ => none
def castBool (c : V) (K : Bool → Option α) : Option α := match c with
  | .bool b => K b
  | _ => none
def castStr (c : V) (K : ByteArray → Option α) : Option α := match c with
  | .str s => K s
  | _ => none
def castPtr (c : V) (K : Nat → Nat → Option α) : Option α := match c with
  | .ptr r o => K r o
  | _ => none
def castFn (c : V) (K : FuncId → List V → Option α) : Option α := match c with
  | .fn f cs => K f cs
  | _ => none
def castAgg (c : V) (K : List V → Option α) : Option α := match c with
  | .agg cs => K cs
  | _ => none
def castTuple (c : V) (K : List V → Option α) : Option α := match c with
  | .tuple cs => K cs
  | _ => none
def uncons (cs : List V) (K : V → List V → Option α) : Option α := match cs with
  | c :: cs => K c cs
  | [] => none
def isNil (cs : List V) (K : Option α) : Option α := match cs with
  | [] => K
  | _ :: _ => none
end

/-- What a cell is seen as. -/
inductive LK where
  | int (k : IntKind)
  | bool
  | str
  | any

def leaves (P : Program) : Nat → TypeId → List LK
  | 0, _ => []
  | d + 1, t => match P.underlying t with
    | some (.int k) => [.int k]
    | some .bool => [.bool]
    | some .string => [.str]
    | some (.struct fs) => (fs.toList.map fun f => leaves P d f.type).flatten
    | some (.array n e) => (List.replicate n (leaves P d e)).flatten
    | _ => [.any]

section
variable {α : Type}
def castLeaf (k : LK) (c : V) (K : V → Option α) : Option α := match k with
  | .int k => castInt k c fun n => K (.int k n)
  | .bool => castBool c fun b => K (.bool b)
  | .str => castStr c fun s => K (.str s)
  | .any => K c

def castCells : List LK → List V → (List V → Option α) → Option α
  | [], cs, K => isNil cs (K [])
  | k :: ks, cs, K => uncons cs fun c cs => castLeaf k c fun c => castCells ks cs fun cs => K (c :: cs)

def isAggB (P : Program) (t : TypeId) : Bool := match P.underlying t with
  | some (.struct _) => true
  | some (.array _ _) => true
  | _ => false

def aggOf (P : Program) (t : TypeId) : Option Bool := match P.underlying t with
  | some (.struct _) => some true
  | some (.array _ _) => some true
  | some _ => some false
  | none => none

def castOne (P : Program) (t : TypeId) (v : V) (K : V → Option α) : Option α :=
  if isAggB P t then castAgg v fun cs => castCells (leaves P 20 t) cs fun cs => K (.agg cs)
  else match leaves P 20 t with
    | [k] => castLeaf k v K
    | _ => none

def castMany (P : Program) : List TypeId → List V → (List V → Option α) → Option α
  | [], vs, K => isNil vs (K [])
  | t :: ts, vs, K => uncons vs fun v vs => castOne P t v fun v => castMany P ts vs fun vs => K (v :: vs)

/-- A call's result, as its type says. -/
def castTy (P : Program) (t : TypeId) (v : V) (K : V → Option α) : Option α := match P.underlying t with
  | some (.tuple ts) => castTuple v fun vs => castMany P ts.toList vs fun vs => K (.tuple vs)
  | _ => castOne P t v K
end

/-! Memory. -/
def rdc (σ : Heap) (r off n : Nat) : Option (List V) := match σ[r]? with
  | some (some row) => if off + n ≤ row.cells.length then some ((row.cells.drop off).take n) else none
  | _ => none

def setCells (cs : List V) (off : Nat) : List V → List V
  | [] => cs
  | x :: xs => setCells (cs.set off x) (off + 1) xs

def wrc (σ : Heap) (r off : Nat) (xs : List V) : Option Heap := match σ[r]? with
  | some (some row) => if row.ro = false ∧ off + xs.length ≤ row.cells.length then some (σ.set r (some { row with cells := setCells row.cells off xs })) else none
  | _ => none

def hnew (σ : Heap) (esz : Nat) (cells : List V) : Heap := σ ++ [some ⟨cells, esz, false, 0⟩]
/-- A row of a known type. -/
def hnewT (σ : Heap) (ty esz : Nat) (cells : List V) : Heap := σ ++ [some ⟨cells, esz, false, ty⟩]

def vlen : V → Option Nat
  | .sl _ _ n _ => some n
  | .nils => some 0
  | .emp => some 0
  | _ => none

def vidx (esz : Nat) (v : V) (i : Int) : Option (Nat × Nat) := match v with
  | .sl r o n _ => if 0 ≤ i ∧ i < n then some (r, o + i.toNat * esz) else none
  | _ => none

/-- All cells of a slice. -/
def vcells (σ : Heap) (esz : Nat) : V → Option (Nat × List V)
  | .sl r o n _ => (rdc σ r o (n * esz)).bind fun cs => some (n, cs)
  | .nils => some (0, [])
  | .emp => some (0, [])
  | _ => none

def vslice (esz : Nat) (v : V) (lo hi : Option Int) : Option V := match v with
  | .sl r o n lim =>
    let l := lo.getD 0
    let h := hi.getD n
    if 0 ≤ l ∧ l ≤ h ∧ h ≤ n then (if 0 < l ∧ l = h then some .emp else some (.sl r (o + l.toNat * esz) (h - l).toNat (lim && decide (h = n)))) else none
  | .nils => if lo.getD 0 = 0 ∧ hi.getD 0 = 0 then some .nils else none
  | _ => none

def vappend (esz bytes : Nat) (σ : Heap) (s : V) (k : Nat) (xs : List V) : Option (V × Heap) :=
  match s with
  | .nils => if k = 0 then some (.nils, σ) else if k * bytes ≤ 2 ^ 46 ∧ k ≤ 2 ^ 46 then some (.sl σ.length 0 k false, hnew σ esz xs) else none
  | .sl r o n lim => match σ[r]? with
    | some (some row) =>
      if row.esz = esz ∧ o + n * esz ≤ row.cells.length ∧ (n + k) * bytes ≤ 2 ^ 46 ∧ n + k ≤ 2 ^ 46 then
        (if lim then (if k = 0 then some (s, σ) else some (.sl σ.length 0 (n + k) false, hnew σ esz ((row.cells.drop o).take (n * esz) ++ xs)))
        else if row.ro = false ∧ o = 0 then some (.sl σ.length 0 (n + k) false, hnew (σ.set r none) esz (row.cells.take (n * esz) ++ xs))
        else none)
      else none
    | _ => none
  | _ => none

def sbyte (s : ByteArray) (i : Int) : Option Int :=
  match (if 0 ≤ i then s[i.toNat]? else none) with
  | some b => some b.toNat
  | none => none

/-- An element of one cell of an array of n. -/
def aidx (n : Nat) (cs : List V) (i : Int) : Option V := if 0 ≤ i ∧ i < n then cs[i.toNat]? else none

def ssub (s : ByteArray) (lo hi : Option Int) : Option ByteArray :=
  let l := lo.getD 0
  let h := hi.getD s.size
  if 0 ≤ l ∧ l ≤ h ∧ h ≤ s.size then some (s.extract l.toNat h.toNat) else none

section
variable {α : Type}
def hbinInt (op : BinOp) (k : IntKind) (a b : Int) (K : V → Option α) : Option α := match op with
  | .add => K (.int k (k.wrap (a + b)))
  | .sub => K (.int k (k.wrap (a - b)))
  | .mul => K (.int k (k.wrap (a * b)))
  | .quo => if b = 0 then none else K (.int k (k.wrap (a.tdiv b)))
  | .rem => if b = 0 then none else K (.int k (a.tmod b))
  | .eql => K (.bool (decide (a = b)))
  | .neq => K (.bool (!decide (a = b)))
  | .lss => K (.bool (decide (a < b)))
  | .leq => K (.bool (decide (a ≤ b)))
  | .gtr => K (.bool (decide (b < a)))
  | .geq => K (.bool (decide (b ≤ a)))
  | .and => K (.int k (k.wrap (BitVec.ofInt k.bits a &&& BitVec.ofInt k.bits b).toNat))
  | .or => K (.int k (k.wrap (BitVec.ofInt k.bits a ||| BitVec.ofInt k.bits b).toNat))
  | .xor => K (.int k (k.wrap (BitVec.ofInt k.bits a ^^^ BitVec.ofInt k.bits b).toNat))
  | _ => none

def hbinStr (op : BinOp) (a b : ByteArray) (K : V → Option α) : Option α := match op with
  | .add => if a.size + b.size ≤ 2 ^ 62 then K (.str (a ++ b)) else none
  | .eql => K (.bool (decide (a = b)))
  | .neq => K (.bool (!decide (a = b)))
  | .lss => K (.bool (Op.bytesLess a.toList b.toList))
  | .leq => K (.bool (!Op.bytesLess b.toList a.toList))
  | .gtr => K (.bool (Op.bytesLess b.toList a.toList))
  | .geq => K (.bool (!Op.bytesLess a.toList b.toList))
  | _ => none

/-- Whether two cells are one: whole numbers, bools, texts alone. -/
def hbin (op : BinOp) (x y : V) (K : V → Option α) : Option α := match op, x, y with
  | .shl, .int k a, .int _ b => if 0 ≤ b then K (.int k (k.wrap (a * 2 ^ (min b.toNat k.bits)))) else none
  | .shr, .int k a, .int _ b => if 0 ≤ b then K (.int k (a.fdiv (2 ^ (min b.toNat k.bits)))) else none
  | op, .int k a, .int k' b => if k' = k then hbinInt op k a b K else none
  | op, .str a, .str b => hbinStr op a b K
  | _, _, _ => none

/-- Of a comparison of equals. -/
def heq (op : BinOp) (b : Bool) (K : V → Option α) : Option α := match op with
  | .eql => K (.bool b)
  | .neq => K (.bool (!b))
  | _ => none
end

def eqLeaf (d : Option TypeDesc) (x y : V) : Option Bool := match d, x, y with
  | some (.int _), .int k a, .int k' b => if k' = k then some (decide (a = b)) else none
  | some .string, .str a, .str b => some (decide (a = b))
  | some .bool, .bool a, .bool b => some (a == b)
  | _, _, _ => none

/-- Whether two structs of whole numbers, texts and bools are one. -/
def eqFlat (P : Program) : List Field → Nat → List V → List V → Option Bool
  | [], _, [], [] => some true
  | f :: fs, i, x :: xs, y :: ys => bif f.name != "_" && f.offset == i then (eqLeaf (P.underlying f.type) x y).bind fun b => (eqFlat P fs (i + 1) xs ys).bind fun c => some (b && c) else none
  | _, _, _, _ => none

def eqOk (P : Program) (t : TypeId) : Bool := !P.eqGuardType P.depth t && !P.stoodInHeld t

/-- Whether a value is nil. -/
def nilS : V → Option Bool
  | .sl _ _ _ _ => some false
  | .emp => some false
  | .nils => some true
  | _ => none
def nilP : V → Option Bool
  | .ptr _ _ => some false
  | .nilp => some true
  | _ => none
def nilI : V → Option Bool
  | .iface _ _ => some false
  | .nili => some true
  | _ => none

def isConst : Operand → Bool
  | .const _ => true
  | _ => false

/-! Operations. -/
structure Env where
  P : Program
  call : FuncId → List V → Heap → Option (V × Heap)
  /-- Which temporaries hold private blocks. -/
  lo : Nat → Bool
  /-- By a block's number: what of the temporaries a loop in it goes on with, and what is left of them behind it. -/
  msk : Nat → List Nat × List Nat
  /-- Types whose rows bear them. -/
  tyd : TypeId → Bool

def esize (P : Program) (t : TypeId) : Option Nat := match P.info? t with
  | some i => some i.size
  | none => none

def zeros (P : Program) (t : TypeId) : Option V := match P.info? t with
  | some i => (match i.zero with
    | some z => ofValue z
    | none => none)
  | none => none

def elemT (P : Program) (t : TypeId) : Option TypeId := match P.underlying t with
  | some (.slice e) => some e
  | _ => none

def isSlice (P : Program) (t : TypeId) : Bool := match P.underlying t with
  | some (.slice _) => true
  | _ => false

def fieldOff (P : Program) (t : TypeId) (i : Nat) : Option (Nat × TypeId) := match P.underlying t with
  | some (.struct fs) => (match fs[i]? with
    | some f => some (f.offset, f.type)
    | none => none)
  | _ => none

def nsize (P : Program) (t : TypeId) : Nat := (esize P t).getD 0

/-- All of an array, as a slice. -/
def gwhole (σ : Heap) (r o n sz : Nat) : Option V := match σ[r]? with
  | some (some row) => if o = 0 ∧ row.esz = sz ∧ row.cells.length = n * sz ∧ n ≠ 0 ∧ sz ≠ 0 then some (.sl r 0 n true) else none
  | _ => none
def vwhole (P : Program) (n : Nat) (e : TypeId) (σ : Heap) (x : V) (lo hi : Option Int) : Option V := match lo, hi with
  | none, none => (esize P e).bind fun sz => castPtr x fun r o => gwhole σ r o n sz
  | _, _ => none

/-- A value of a type with parts put in. -/
def fillV (place : Nat → Option (Nat × Nat)) (cells : List V) : List (Nat × List V) → Option (List V)
  | [] => some cells
  | (i, v) :: rest => match place i with
    | some (off, size) => if v.length = size ∧ off + size ≤ cells.length then fillV place (setCells cells off v) rest else none
    | none => none

def setT (d : Nat) (x : T) (t : List T) : List T := t.set d x
def putT (dst : Option Nat) (x : T) (t : List T) : List T := match dst with
  | some d => t.set d x
  | none => t
def killRefs (d : Nat) (t : List T) : List T := t.map fun
  | .ref e o => if e = d then .bot else .ref e o
  | x => x

section
variable {α : Type}
/-- A value of one cell. -/
def one (v : V) (K : Option α) : Option α := bif v.flat then K else none

/-- The cells of a value of a type. -/
def cellsT (P : Program) (ty : TypeId) (v : V) (K : List V → Option α) : Option α :=
  (aggOf P ty).bind fun ag => bif ag then castAgg v K else one v (K [v])

def evParts (P : Program) (tyOf : Nat → Option TypeId) (t : List T) : List (Nat × Operand) → (List (Nat × List V) → Option α) → Option α
  | [], K => K []
  | (i, o) :: os, K => evV t o fun x => (tyOf i).bind fun ty => cellsT P ty x fun x => evParts P tyOf t os fun xs => K ((i, x) :: xs)

def evOpt (t : List T) (o : Option Operand) (K : Option Int → Option α) : Option α := match o with
  | none => K none
  | some o => evV t o fun x => castInt .i64 x fun n => K (some n)

def isLocal (E : Env) (dst : Option Nat) : Bool := match dst with
  | some d => E.lo d
  | none => false

/-- What is laid behind a slice, where its elements' type is known. -/
def vappendT (ty esz bytes : Nat) (σ : Heap) (s : V) (k : Nat) (xs : List V) : Option (V × Heap) :=
  match s with
  | .nils => if k = 0 then some (.nils, σ) else if k * bytes ≤ 2 ^ 46 ∧ k ≤ 2 ^ 46 then some (.sl σ.length 0 k false, hnewT σ ty esz xs) else none
  | .sl r o n lim => match σ[r]? with
    | some (some row) =>
      if row.esz = esz ∧ o + n * esz ≤ row.cells.length ∧ (n + k) * bytes ≤ 2 ^ 46 ∧ n + k ≤ 2 ^ 46 then
        (if lim then (if k = 0 then some (s, σ) else some (.sl σ.length 0 (n + k) false, hnewT σ ty esz ((row.cells.drop o).take (n * esz) ++ xs)))
        else if row.ro = false ∧ o = 0 ∧ row.ty = ty then some (.sl σ.length 0 (n + k) false, hnewT (σ.set r none) ty esz (row.cells.take (n * esz) ++ xs))
        else none)
      else none
    | _ => none
  | _ => none

/-- As many elements as there is room for, out of one row into another. -/
def vcopy (σ : Heap) (esz : Nat) (d s : V) : Option (Nat × Heap) := match d, s with
  | .sl rd od nd _, .sl rs os ms _ => (rdc σ rs os (min ms nd * esz)).bind fun cs => (wrc σ rd od cs).bind fun σ' => some (min ms nd, σ')
  | _, _ => none

def vappendE (E : Env) (e esz bytes : Nat) (σ : Heap) (s : V) (k : Nat) (xs : List V) : Option (V × Heap) :=
  bif E.tyd e then vappendT (e + 1) esz bytes σ s k xs else vappend esz bytes σ s k xs

def hbuiltin (E : Env) (b : Builtin) (ts : List TypeId) (args : List Operand) (t : List T) (σ : Heap) (K : T → Heap → Option α) : Option α :=
  match b, ts, args with
  | .len, [ty], [x] => evV t x fun v => (match E.P.underlying ty with
    | some .string => castStr v fun s => K (.v (.int .i64 s.size)) σ
    | some (.slice _) => (vlen v).bind fun n => K (.v (.int .i64 n)) σ
    | _ => none)
  | .max, [_, _], [x, y] => evV t x fun x => evV t y fun y => castInt .i64 x fun a => castInt .i64 y fun b => K (.v (.int .i64 (if a < b then b else a))) σ
  | .append, [ty, tx], [x, y] => (elemT E.P ty).bind fun e => (E.P.info? e).bind fun i => (zeros E.P e).bind fun z => if i.size = 0 ∨ z.cells.length ≠ i.size then none else evV t x fun s =>
    (match E.P.underlying tx with
    | some (.slice _) => (match ev t y with
      | .v y => (vcells σ i.size y).bind fun p => (vappendE E e i.size i.bytes σ s p.1 p.2).bind fun r => K (.v r.1) r.2
      | .arr cs n => if cs.length = n * i.size then (vappendE E e i.size i.bytes σ s n cs).bind fun r => K (.v r.1) r.2 else none
      | _ => none)
    | some .string => evV t y fun y => castStr y fun b => if i.size = 1 then (vappendE E e 1 i.bytes σ s b.size (b.data.toList.map fun c => .int .u8 c.toNat)).bind fun r => K (.v r.1) r.2 else none
    | _ => none)
  | .copy, [ty, tx], [x, y] => (elemT E.P ty).bind fun e => (esize E.P e).bind fun sz => evV t x fun d => evV t y fun s => (match E.P.underlying tx with
    | some (.slice _) => (vcopy σ sz d s).bind fun r => K (.v (.int .i64 r.1)) r.2
    | _ => none)
  | _, _, _ => none

/-- The text of some bytes. -/
def bytesOf : List V → ByteArray → Option ByteArray
  | [], s => some s
  | .int .u8 n :: cs, s => bytesOf cs (s.push (UInt8.ofNat n.toNat))
  | _, _ => none

def hbytes (E : Env) (src dst : TypeId) (t : List T) (x : Operand) (σ : Heap) (K : ByteArray → Option α) : Option α :=
  match E.P.underlying src, E.P.underlying dst with
  | some (.slice e), some .string => (match E.P.underlying e with
    | some (.int .u8) => (match ev t x with
      | .v v => (vcells σ 1 v).bind fun p => (bytesOf p.2 .empty).bind K
      | .arr cs n => if cs.length = n then (bytesOf cs .empty).bind K else none
      | _ => none)
    | _ => none)
  | _, _ => none

/-- One operation: what it yields, and the memory behind it. -/
def hop (E : Env) (o : Oper) (t : List T) (σ : Heap) (K : List T → Heap → Option α) : Option α :=
  let done (x : T) (σ : Heap) : Option α := K (putT o.dst x t) σ
  match o.op with
  | .move x | .assign x => evA t x fun x => done x σ
  | .pick c a b => evV t c fun c => castBool c fun c => bif c then evV t a fun a => done (.v a) σ else evV t b fun b => done (.v b) σ
  | .alloc ty => (zeros E.P ty).bind fun z =>
    if isLocal E o.dst then K (putT o.dst (.box z.cells) (match o.dst with | some d => killRefs d t | none => t)) σ
    else done (.v (.ptr σ.length 0)) (bif E.tyd ty then hnewT σ (ty + 1) z.cells.length z.cells else hnew σ z.cells.length z.cells)
  | .box ty x => evV t x fun x => cellsT E.P ty x fun x =>
    if isLocal E o.dst then K (putT o.dst (.box x) (match o.dst with | some d => killRefs d t | none => t)) σ
    else done (.v (.ptr σ.length 0)) (hnew σ x.length x)
  | .build ty parts => (match E.P.underlying ty with
    | some (.struct fs) => evParts E.P (fun i => (fs[i]?).map fun f => f.type) t parts.toList fun ps => bif fs.toList.all (fun f => (E.P.info? f.type).isSome) then (zeros E.P ty).bind fun z => (fillV (fun i => (fs[i]?).map fun f => (f.offset, nsize E.P f.type)) z.cells ps).bind fun cs => done (.v (.agg cs)) σ else none
    | some (.array _ e) => (esize E.P e).bind fun sz => evParts E.P (fun _ => some e) t parts.toList fun ps => (zeros E.P ty).bind fun z => (fillV (fun i => some (i * sz, sz)) z.cells ps).bind fun cs => done (.v (.agg cs)) σ
    | _ => none)
  | .buildSlice ty n parts => (elemT E.P ty).bind fun e => (esize E.P e).bind fun sz => (zeros E.P e).bind fun z => if n * sz > 2 ^ 24 ∨ z.cells.length ≠ sz ∨ sz = 0 then none else
    evParts E.P (fun _ => some e) t parts.toList fun ps => (fillV (fun i => some (i * sz, sz)) (List.replicate n z.cells).flatten ps).bind fun cs =>
    if isLocal E o.dst then K (putT o.dst (.arr cs n) (match o.dst with | some d => killRefs d t | none => t)) σ else done (.v (.sl σ.length 0 n true)) (hnew σ sz cs)
  | .makeSlice ty l c => (match l, c with
    | .tmp i, .tmp j => bif i == j then (elemT E.P ty).bind fun e => (E.P.info? e).bind fun f => (zeros E.P e).bind fun z => if f.size = 0 ∨ z.cells.length ≠ f.size then none else
      evV t l fun v => castInt .i64 v fun n => if 0 ≤ n ∧ n * f.bytes ≤ 2 ^ 46 ∧ n ≤ 2 ^ 46 then done (.v (.sl σ.length 0 n.toNat true)) (hnew σ f.size (List.replicate n.toNat z.cells).flatten) else none
      else none
    | _, _ => none)
  | .makeInterface ty x => (match E.P.underlying ty with
    | some (.interface _) => none
    | some _ => evV t x fun x => done (.v (.iface ty x)) σ
    | none => none)
  | .load ty x => (aggOf E.P ty).bind fun ag => evP t x
    (fun d off => (match t[d]? with
      | some (.box cs) => bif ag then (if off + nsize E.P ty ≤ cs.length then done (.v (.agg ((cs.drop off).take (nsize E.P ty)))) σ else none)
        else (match cs[off]? with
          | some c => done (.v c) σ
          | none => none)
      | _ => none))
    (fun r off => bif ag then (rdc σ r off (nsize E.P ty)).bind fun cs => castCells (leaves E.P 20 ty) cs fun cs => done (.v (.agg cs)) σ
      else (rdc σ r off 1).bind fun cs => castCells (leaves E.P 20 ty) cs fun cs => (match cs with
        | [c] => done (.v c) σ
        | _ => none))
  | .store ty x y => (esize E.P ty).bind fun n => evV t y fun y => cellsT E.P ty y fun y => if y.length ≠ n then none else evP t x
    (fun d off => (match t[d]? with
      | some (.box cs) => if off + y.length ≤ cs.length then K (putT o.dst .bot (t.set d (.box (setCells cs off y)))) σ else none
      | _ => none))
    (fun r off => (wrc σ r off y).bind fun σ => done .bot σ)
  | .nilCheck x => evP t x (fun d off => done (.ref d off) σ) (fun r off => done (.v (.ptr r off)) σ)
  | .binOp op ty x y _ => evV t x fun u => evV t y fun v => (match E.P.underlying ty with
    | some (.int _) => hbin op u v fun v => done (.v v) σ
    | some .string => hbin op u v fun v => done (.v v) σ
    | some .bool => castBool u fun a => castBool v fun b => heq op (a == b) fun v => done (.v v) σ
    | some (.struct fs) => bif eqOk E.P ty then castAgg u fun cs => castAgg v fun ds => (eqFlat E.P fs.toList 0 cs ds).bind fun b => heq op b fun v => done (.v v) σ else none
    | some (.slice _) => (match v with
      | .nils => (nilS u).bind fun b => heq op b fun v => done (.v v) σ
      | _ => none)
    | some (.pointer _) => (match v with
      | .nilp => (nilP u).bind fun b => heq op b fun v => done (.v v) σ
      | _ => none)
    | some (.interface _) => (match v with
      | .nili => bif isConst y then (nilI u).bind fun b => heq op b fun v => done (.v v) σ else none
      | _ => none)
    | _ => none)
  | .unOp .not _ x => evV t x fun x => castBool x fun b => done (.v (.bool (!b))) σ
  | .unOp .neg _ x => evV t x fun x => (match x with
    | .int k n => done (.v (.int k (k.wrap (0 - n)))) σ
    | _ => none)
  | .convert src dst x => bif isSlice E.P src then hbytes E src dst t x σ fun s => done (.v (.str s)) σ else evV t x fun x => (match E.P.underlying src, E.P.underlying dst, x with
    | some _, some (.int k), .int _ n => done (.v (.int k (k.wrap n))) σ
    | some _, some .string, .str s => done (.v (.str s)) σ
    | _, _, _ => none)
  | .makeFunc (.func f) first captured => if first.size = 0 then evs t captured.toList fun cs => done (.v (.fn f cs)) σ else none
  | .slice ty x lo hi none => evV t x fun x => evOpt t lo fun lo => evOpt t hi fun hi => (match E.P.underlying ty with
    | some .string => castStr x fun s => (ssub s lo hi).bind fun s => done (.v (.str s)) σ
    | some (.slice e) => (esize E.P e).bind fun sz => (vslice sz x lo hi).bind fun v => done (.v v) σ
    | some (.array n e) => (vwhole E.P n e σ x lo hi).bind fun v => done (.v v) σ
    | _ => none)
  | .fieldAddr ty x i => (fieldOff E.P ty i).bind fun f => if nsize E.P f.2 = 0 then none else evP t x (fun d off => done (.ref d (off + f.1)) σ) (fun r off => done (.v (.ptr r (off + f.1))) σ)
  | .field ty x i => (fieldOff E.P ty i).bind fun f => (aggOf E.P f.2).bind fun ag => evV t x fun x => castAgg x fun cs =>
    bif ag then done (.v (.agg ((cs.drop f.1).take (nsize E.P f.2)))) σ
    else (match cs[f.1]? with
      | some c => done (.v c) σ
      | none => none)
  | .indexAddr ty x i => (match E.P.underlying ty with
    | some (.array n e) => (esize E.P e).bind fun sz => evV t x fun x => evV t i fun i => castPtr x fun r o => castIdx i fun i => if 0 ≤ i ∧ i < n then done (.v (.ptr r (o + i.toNat * sz))) σ else none
    | _ => (elemT E.P ty).bind fun e => (esize E.P e).bind fun sz => evV t x fun x => evV t i fun i => castIdx i fun i =>
      (vidx sz x i).bind fun p => done (.v (.ptr p.1 p.2)) σ)
  | .index ty x i => (match E.P.underlying ty with
    | some .string => evV t x fun x => evV t i fun i => castStr x fun s => castIdx i fun i => (sbyte s i).bind fun b => done (.v (.int .u8 b)) σ
    | some (.array n e) => (esize E.P e).bind fun sz => (aggOf E.P e).bind fun ag => if sz = 1 ∧ ag = false then evV t x fun x => evV t i fun i => castAgg x fun cs => castIdx i fun i => (aidx n cs i).bind fun c => done (.v c) σ else none
    | _ => none)
  | .extract x i => evV t x fun x => castTuple x fun vs => (match vs[i]? with
    | some v => done (.v v) σ
    | none => none)
  | .call c => (match c.callee with
    | .builtin b => hbuiltin E b c.argTypes.toList c.args.toList t σ done
    | .value f => evV t f fun f => castFn f fun f cap => evs t c.args.toList fun args => (E.call f (args ++ cap) σ).bind fun r =>
      castTy E.P o.type r.1 fun v => done (.v v) r.2
    | _ => none)
  | _ => none

/-- Whether an operation is to be done: if another's bool says so. -/
def hguard (ops : Array Oper) (o : Oper) (t : List T) (yes no : List T → Option α) : Option α := match o.guard with
  | none => yes t
  | some (j, want) => (match (ops[j]?).bind (·.dst) with
    | some d => (match t[d]? with
      | some (.v (.bool b)) => bif b then (bif want then yes (t.set d (.v (.bool true))) else no (t.set d (.v (.bool true))))
          else (bif want then no (t.set d (.v (.bool false))) else yes (t.set d (.v (.bool false))))
      | some (.v (.tuple [])) => no t
      | _ => none)
    | none => none)

def hops (E : Env) (all : Array Oper) : List Oper → (List T → Heap → Option α) → List T → Heap → Option α
  | [], K, t, σ => K t σ
  | o :: os, K, t, σ => hguard all o t (fun t => hop E o t σ (hops E all os K)) (fun t => hops E all os K (putT o.dst undefT t) σ)

def pick (ks : List Nat) (t : List T) : List T := ks.map fun k => (t[k]?).getD .bot
def unpick (n : Nat) : List Nat → List T → List T
  | k :: ks, x :: xs => (unpick n ks xs).set k x
  | _, _ => List.replicate n .bot
end

/-- Whether an operation yields its value whatever the world (a load: while nobody writes what it reads). -/
def isPR (P : Program) (o : Oper) : Bool := match o.op with
  | .move _ => true
  | .assign _ => true
  | .pick _ _ _ => true
  | .build _ _ => true
  | .load _ _ => true
  | .nilCheck _ => true
  | .binOp _ _ _ _ _ => true
  | .unOp _ _ _ => true
  | .convert src _ _ => !isSlice P src
  | .makeInterface _ _ => true
  | .makeFunc _ _ _ => true
  | .slice _ _ _ _ _ => true
  | .fieldAddr _ _ _ => true
  | .field _ _ _ => true
  | .indexAddr _ _ _ => true
  | .index _ _ _ => true
  | .extract _ _ => true
  | .call c => (match c.callee with
    | .builtin .append => false
    | .builtin .copy => false
    | .builtin _ => true
    | _ => false)
  | _ => false

/-- What a load reads by. -/
def loadOf (o : Oper) : Option Operand := match o.op with
  | .load _ x => some x
  | _ => none

/-- Whether an operation writes a temporary, or the private block of one. -/
def touch (o : Oper) (t : List T) (i : Nat) : Bool := o.dst == some i || (match o.op with
  | .store _ x _ => (match ev t x with
    | .ref d _ => d == i
    | _ => false)
  | _ => false)

/-! Regions whose order is drawn. -/
inductive Pend where
  | loc (d : Nat)
  | row (r : Nat)

def dep (ops : Array Oper) (j i : Nat) : Bool := match ops[j]? with
  | some o => o.after.any fun e => Region.binds .any e && e.on == i
  | none => false

def isPRat (P : Program) (ops : Array Oper) (i : Nat) : Bool := match ops[i]? with
  | some o => isPR P o
  | none => false

def dropP (ops : Array Oper) (j : Nat) (ps : List (Nat × Pend)) : List (Nat × Pend) := ps.filter fun p => !dep ops j p.1

def pendRows : List (Nat × Pend) → List Nat
  | [] => []
  | (_, .row r) :: ps => r :: pendRows ps
  | _ :: ps => pendRows ps

def toRo (σ : Heap) (r : Nat) : Heap := match σ[r]? with
  | some (some row) => σ.set r (some ⟨row.cells, row.esz, true, row.ty⟩)
  | _ => σ
def back (σ σ' : Heap) (r : Nat) : Heap := match σ[r]? with
  | some (some row) => σ'.set r (some row)
  | _ => σ'

/-- Rows that nobody may write meanwhile. -/
def prot : List Nat → Heap → Heap
  | [], σ => σ
  | r :: rs, σ => toRo (prot rs σ) r
/-- And as they were. -/
def unprot : List Nat → Heap → Heap → Heap
  | [], _, σ' => σ'
  | r :: rs, σ, σ' => back σ (unprot rs σ σ') r

def pendTouch (o : Oper) (t : List T) : List (Nat × Pend) → Bool
  | [] => false
  | (_, .loc d) :: ps => touch o t d || pendTouch o t ps
  | _ :: ps => pendTouch o t ps

/-- Whether an operation lays a new block, and does nothing else. -/
def isAlloc (o : Oper) : Bool := o.guard.isNone && o.dst.isSome && (match o.op with
  | .alloc _ => true
  | .box _ _ => true
  | .buildSlice _ _ _ => true
  | _ => false)
def isAllocAt (ops : Array Oper) (i : Nat) : Bool := match ops[i]? with
  | some o => isAlloc o
  | none => false
/-- What is done next of what may come: the one that does more than lay a new block, the new blocks later; or the first new block. -/
def alone (f : Nat → Bool) (r : Nat) (rs : List Nat) : Option (Nat × List Nat) := match (r :: rs).filter (fun i => !f i) with
  | [] => some (r, rs)
  | [j] => some (j, (r :: rs).filter f)
  | _ => none
/-- Places that are to be set later. -/
def maskT (ops : Array Oper) : List Nat → List T → List T
  | [], t => t
  | i :: is, t => maskT ops is (match (ops[i]?).bind (·.dst) with
    | some d => (killRefs d t).set d .bot
    | none => t)
def listAll (listed : Array Bool) (is : List Nat) : Array Bool := is.foldl (fun l i => l.setIfInBounds i true) listed
def laterOk (E : Env) (ops : Array Oper) (listed : Array Bool) (ps : List (Nat × Pend)) (t : List T) (σ : Heap) (j : Nat) (A : List Nat) : Bool :=
  A.all (fun i => Region.free .any ops listed i && (match ops[i]? with
    | some o => !pendTouch o t ps && (match o.dst with
      | some d => decide (d < t.length) && !(o.looksAt ops).contains d
      | none => false) && (hop E o t σ (fun _ _ => some ())).isSome
    | none => false)) && (Region.ready .any ops (listAll listed A)).all (fun k => k == j)

section
variable {α : Type}
def pendOf (t : List T) (x : Operand) (K : Pend → Option α) : Option α := match ev t x with
  | .ref d _ => K (.loc d)
  | .v v => castPtr v fun r _ => K (.row r)
  | _ => none

def hdraw (E : Env) (ops : Array Oper) (K : List T → Heap → Option α) : Nat → Array Bool → List (Nat × Pend) → List T → Heap → Option α
  | 0, listed, _, t, σ => bif (Region.ready .any ops listed).isEmpty then K t σ else none
  | n + 1, listed, ps, t, σ => match Region.ready .any ops listed with
    | [] => K t σ
    | r :: rs => match (r :: rs).find? (fun i => isPRat E.P ops i && Region.free .any ops listed i) with
      | some i => (match ops[i]? with
        | some o => hguard ops o t
            (fun t => match loadOf o with
              | none => bif pendTouch o t ps then none else hop E o t σ (fun t σ => hdraw E ops K n (listed.setIfInBounds i true) ps t σ)
              | some x => pendOf t x fun p => bif pendTouch o t ((i, p) :: ps) then none else hop E o t σ (fun t σ => hdraw E ops K n (listed.setIfInBounds i true) ((i, p) :: ps) t σ))
            (fun t => bif pendTouch o t ps then none else hdraw E ops K n (listed.setIfInBounds i true) ps (putT o.dst undefT t) σ)
        | none => none)
      | none => (match alone (isAllocAt ops) r rs with
        | some (j, A) => (match ops[j]? with
          | some o => bif isPR E.P o || !laterOk E ops listed ps (maskT ops A t) σ j A then none else hguard ops o (maskT ops A t)
              (fun t => bif pendTouch o t (dropP ops j ps) then none else
                hop E o t (prot (pendRows (dropP ops j ps)) σ) (fun t' σ' => hdraw E ops K n (listed.setIfInBounds j true) (dropP ops j ps) t' (unprot (pendRows (dropP ops j ps)) σ σ')))
              (fun t => bif pendTouch o t (dropP ops j ps) then none else hdraw E ops K n (listed.setIfInBounds j true) (dropP ops j ps) (putT o.dst undefT t) σ)
          | none => none)
        | none => none)
end

def hloop (body : (Ex → List T → Heap → Option (Ex × List T × Heap)) → List T → Heap → Option (Ex × List T × Heap)) (n : Nat) (ki ko : List Nat) : Nat → List T → Heap → Option (Ex × List T × Heap)
  | 0, _, _ => none
  | k + 1, vals, σ => body (fun e t σ => match e with
      | .normal => hloop body n ki ko k (pick ki t) σ
      | e => some (e, pick ko t, σ)) (unpick n ki vals) σ

def hx (E : Env) (k n : Nat) : (c : Code) → (cur : Nat) → {α : Type} → (Ex → List T → Heap → Option α) → List T → Heap → Option α
  | .skip, _, _, K, t, σ => K .normal t σ
  | .seq a b, cur, _, K, t, σ => hx E k n a cur (fun e t σ => match e with
    | .normal => hx E k n b cur K t σ
    | e => K e t σ) t σ
  | .cond c a b, cur, _, K, t, σ => evV t c fun c => castBool c fun c => bif c then hx E k n a cur K t σ else hx E k n b cur K t σ
  | .block id c, _, _, K, t, σ => hx E k n c id (fun e t σ => match e with
    | .exit j => if j = id then K .normal t σ else K (.exit j) t σ
    | e => K e t σ) t σ
  | .loop c, cur, _, K, t, σ => (hloop (hx E k n c cur) n (E.msk cur).1 (E.msk cur).2 k (pick (E.msk cur).1 t) σ).bind fun r => K r.1 (unpick n (E.msk cur).2 r.2.1) r.2.2
  | .exit id, _, _, K, t, σ => K (.exit id) t σ
  | .ret, _, _, K, t, σ => K .ret t σ
  | .region _ ops false, _, _, K, t, σ => hops E ops ops.toList (K .normal) t σ
  | .region _ ops true, _, _, K, t, σ => bif Region.noSelect ops then hdraw E ops (K .normal) ops.size (Array.replicate ops.size false) [] t σ else none
  | _, _, _, _, _, _ => none

/-- A part of a code. -/
def subc : Code → List Nat → Code
  | c, [] => c
  | .seq a _, 0 :: p => subc a p
  | .seq _ b, _ :: p => subc b p
  | .cond _ a _, 0 :: p => subc a p
  | .cond _ _ b, _ :: p => subc b p
  | .block _ c, _ :: p => subc c p
  | .loop c, _ :: p => subc c p
  | _, _ => .skip

/-- What follows a part. -/
def aft (E : Env) (k n : Nat) : Code → List Nat → Nat → {α : Type} → (Ex → List T → Heap → Option α) → Ex → List T → Heap → Option α
  | _, [], _, _, K => K
  | .seq a b, 0 :: p, cur, _, K => aft E k n a p cur (fun e t σ => match e with
    | .normal => hx E k n b cur K t σ
    | e => K e t σ)
  | .seq _ b, _ :: p, cur, _, K => aft E k n b p cur K
  | .cond _ a _, 0 :: p, cur, _, K => aft E k n a p cur K
  | .cond _ _ b, _ :: p, cur, _, K => aft E k n b p cur K
  | .block id c, _ :: p, _, _, K => aft E k n c p id (fun e t σ => match e with
    | .exit j => if j = id then K .normal t σ else K (.exit j) t σ
    | e => K e t σ)
  | _, _, _, _, _ => fun _ _ _ => none

/-- What a loop does with what its body comes to. -/
def lk (L : List T → Heap → Option (Ex × List T × Heap)) (ki ko : List Nat) : Ex → List T → Heap → Option (Ex × List T × Heap) := fun e t σ => match e with
  | .normal => L (pick ki t) σ
  | e => some (e, pick ko t, σ)

def bodyOf (f : Func) : Code := match f.body with
  | some c => c
  | none => .skip

/-- A variable's value. -/
def hread (P : Program) (t : List T) (σ : Heap) (ty : TypeId) (x : Operand) : Option V := (aggOf P ty).bind fun ag => evP t x
  (fun d off => (match t[d]? with
    | some (.box cs) => bif ag then (if off + nsize P ty ≤ cs.length then some (.agg ((cs.drop off).take (nsize P ty))) else none) else cs[off]?
    | _ => none))
  (fun r off => bif ag then (rdc σ r off (nsize P ty)).bind fun cs => some (.agg cs) else (rdc σ r off 1).bind fun cs => cs[0]?)

def hresL (P : Program) (t : List T) (σ : Heap) : List ResultVar → Option (List V)
  | [] => some []
  | .tmp i :: rs => evV t (.tmp i) fun x => (hresL P t σ rs).bind fun xs => some (x :: xs)
  | .cell i ty :: rs => (hread P t σ ty (.tmp i)).bind fun x => (hresL P t σ rs).bind fun xs => some (x :: xs)

def hresults (P : Program) (fn : Func) (t : List T) (σ : Heap) : Option V := (hresL P t σ fn.results.toList).bind fun xs => match xs with
  | [x] => some x
  | xs => some (.tuple xs)

structure Glob where
  P : Program
  lo : FuncId → Nat → Bool
  msk : FuncId → Nat → List Nat × List Nat
  tyd : TypeId → Bool
  hook : FuncId → Option (List V → Heap → Option (V × Heap))

def initT (n : Nat) (args : List V) : List T := args.map .v ++ List.replicate (n - args.length) .bot

def hcall (G : Glob) : Nat → FuncId → List V → Heap → Option (V × Heap)
  | 0, _, _, _ => none
  | k + 1, f, args, σ => match G.hook f with
    | some h => h args σ
    | none => match G.P.funcs[f]? with
      | some fn => if fn.ntmps < args.length then none else (match fn.body with
        | some c => hx ⟨G.P, hcall G k, G.lo f, G.msk f, G.tyd⟩ k fn.ntmps c 0 (fun e t σ => match e with
          | .exit _ => none
          | _ => (hresults G.P fn t σ).bind fun v => some (v, σ)) (initT fn.ntmps args) σ
        | none => none)
      | none => none

/-- What a call does with what its body comes to. -/
def ck (P : Program) (fn : Func) : Ex → List T → Heap → Option (V × Heap) := fun e t σ => match e with
  | .exit _ => none
  | _ => (hresults P fn t σ).bind fun v => some (v, σ)

def Glob.env (G : Glob) (f k : Nat) : Env := ⟨G.P, hcall G k, G.lo f, G.msk f, G.tyd⟩
end Go.HM
