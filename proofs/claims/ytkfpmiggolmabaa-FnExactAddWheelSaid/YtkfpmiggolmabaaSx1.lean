/- The abstract execution of Go code by a tree of tests: values, memory, operations. Definitions alone; no statement is proved here. -/
import Derived.Laws.FloatArith
import Derived.Below
import Derived.Tactics
import Derived.Scope
import Derived.KernelRfl
namespace Go.Proofs.Ytkfpmiggolmabaa.Sx
open Go Go.RowKit
set_option linter.unusedVariables false

/-! ### 1. Floats, one NaN for all -/
def isNaN (k : FloatKind) (b : Nat) : Bool := (k.decode b).isNaN
def nanOf : FloatKind → Nat
  | .f32 => 2143289344
  | .f64 => 9221120237041090560
def nz (k : FloatKind) (b : Nat) : Nat := bif isNaN k b then nanOf k else b
def fadd (k : FloatKind) (x y : Nat) : Nat := nz k ((k.format.add x y).getD (nanOf k))
def fsub (k : FloatKind) (x y : Nat) : Nat := nz k ((k.format.sub x y).getD (nanOf k))
def fmul (k : FloatKind) (x y : Nat) : Nat := nz k ((k.format.mul x y).getD (nanOf k))
def fdiv (k : FloatKind) (x y : Nat) : Nat := nz k ((k.format.div x y).getD (nanOf k))
def fneg (k : FloatKind) (x : Nat) : Nat := nz k (Op.negFloat k x)
def feq (k : FloatKind) (x y : Nat) : Bool := k.format.order x y == some .eq
def fne (k : FloatKind) (x y : Nat) : Bool := k.format.order x y != some .eq
def flt (k : FloatKind) (x y : Nat) : Bool := k.format.order x y == some .lt
def fle (k : FloatKind) (x y : Nat) : Bool := k.format.order x y == some .lt || k.format.order x y == some .eq
def fgt (k : FloatKind) (x y : Nat) : Bool := k.format.order x y == some .gt
def fge (k : FloatKind) (x y : Nat) : Bool := k.format.order x y == some .gt || k.format.order x y == some .eq
def fmin (k : FloatKind) (x y : Nat) : Nat :=
  match k.format.order x y with
  | none => nanOf k
  | some .lt => x
  | some .gt => y
  | some .eq => bif (k.decode x).neg then x else y
def fmax (k : FloatKind) (x y : Nat) : Nat :=
  match k.format.order x y with
  | none => nanOf k
  | some .lt => y
  | some .gt => x
  | some .eq => bif (k.decode x).neg then y else x
def fofint (k : FloatKind) (n : Int) : Nat := nz k (k.nearest n)
/-- Whether a conversion between kinds is open (a finite number too great for the narrower kind). -/
def fcvOpen (s d : FloatKind) (b : Nat) : Bool :=
  match s.decode b with
  | .number n m e => (d.decode (d.encode (.number n m e))).isInfinity
  | _ => false
def fcv (s d : FloatKind) (b : Nat) : Nat :=
  nz d (match s.decode b with
  | .nan _ _ => nanOf d
  | .infinity n => d.encode (.infinity n)
  | .number n m e => d.encode (.number n m e))
def fsqrt (x : Nat) : Nat := nz .f64 ((FloatKind.f64.format.sqrt x).getD (nanOf .f64))
def ftoiOk (s : FloatKind) (k : IntKind) (b : Nat) : Bool := (floatToIntVal s b k).isSome
def ftoi (s : FloatKind) (k : IntKind) (b : Nat) : Int := (floatToIntVal s b k).getD 0

/-! ### 2. Trees of tests -/
inductive T (α : Type) where
  | leaf (a : α)
  | br (c : Bool) (t e : T α)
  | bad
def T.get {α : Type} : T α → Option α
  | .leaf a => some a
  | .br c t e => bif c then t.get else e.get
  | .bad => none
def T.bind {α β : Type} : T α → (α → T β) → T β
  | .leaf a, f => f a
  | .br c t e, f => .br c (t.bind f) (e.bind f)
  | .bad, _ => .bad
def T.map {α β : Type} (t : T α) (f : α → β) : T β := t.bind fun a => .leaf (f a)
/-- Ways that meet again: where a way ends in nothing, the rest goes on. -/
def T.join {α : Type} (t : T (Option α)) (r : T α) : T α := t.bind fun o => match o with
  | none => r
  | some v => .leaf v
/-- The value at the way that the tests choose. -/
def T.val {α : Type} [Inhabited α] : T α → α
  | .leaf a => a
  | .br c t e => bif c then t.val else e.val
  | .bad => default
/-- Whether the way that the tests choose ends in a value. -/
def T.ok {α : Type} : T α → Bool
  | .leaf _ => true
  | .br c t e => bif c then t.ok else e.ok
  | .bad => false

/-! ### 3. Values and memory -/
structure Loc where
  b : Nat
  o : Nat
  cap : Nat
inductive V where
  | kb (x : Bool)
  | bo (x : Bool)
  | it (k : IntKind) (n : Int)
  | fl (k : FloatKind) (c : Nat)
  | st (x : ByteArray)
  | pt (id off : Nat)
  /-- A place in a row of mixed cells: element 'row' of size 'sz', cell 'col' of it. -/
  | pr (id row sz col : Nat)
  | pn
  | sl (id off len : Nat)
  | own (id len : Nat)
  | sn
  | nf
  /-- The bits of a NaN, as a uint32. -/
  | qn
  /-- An interface value: nil, or something held. -/
  | er
  | fu (f : FuncId) (cap : List V)
  | agg (xs : List V)
  | tup (xs : List V)
  | unk
  deriving Inhabited
/-- A scalar, its kind told apart. -/
inductive Sc where
  | n (x : Nat)
  | i (x : Int)
  | b (x : Bool)
  | s (x : ByteArray)
instance : Inhabited Sc := ⟨.n 0⟩
inductive SK where
  | fl (k : FloatKind)
  | it (k : IntKind)
  | bo
  | st
def Sc.nat : Sc → Nat
  | .n x => x
  | _ => 0
def Sc.int : Sc → Int
  | .i x => x
  | _ => 0
def Sc.boo : Sc → Bool
  | .b x => x
  | _ => false
def Sc.str : Sc → ByteArray
  | .s x => x
  | _ => ByteArray.empty
def SK.val : SK → Sc → V
  | .fl k, x => .fl k x.nat
  | .it k, x => .it k x.int
  | .bo, x => .bo x.boo
  | .st, x => .st x.str
inductive Cells where
  | vs (xs : List V)
  | mx (ks : List SK) (xs : List (List Sc))
  | fs (k : FloatKind) (xs : List Nat)
  | is (k : IntKind) (xs : List Int)
  | bs (xs : List Bool)
  | ss (xs : List ByteArray)
def Cells.len : Cells → Nat
  | .vs xs => xs.length
  | .mx ks xs => xs.length * ks.length
  | .fs _ xs => xs.length
  | .is _ xs => xs.length
  | .bs xs => xs.length
  | .ss xs => xs.length
def lgetD {α : Type} (d : α) : List α → Nat → α
  | [], _ => d
  | x :: _, 0 => x
  | _ :: r, n + 1 => lgetD d r n
def lget {α : Type} : List α → Nat → Option α
  | [], _ => none
  | x :: _, 0 => some x
  | _ :: r, n + 1 => lget r n
/-- A cell of row 'row': column 'col'. -/
def colAt (ks : List SK) (xs : List (List Sc)) (row col : Nat) : V :=
  match lget ks col with
  | some k => k.val (List.getD (List.getD xs row []) col (.n 0))
  | none => .unk
def Cells.at : Cells → Nat → V
  | .vs xs, j => lgetD .unk xs j
  | .mx ks xs, j => colAt ks xs (j / ks.length) (j % ks.length)
  | .fs k xs, j => .fl k (xs.getD j 0)
  | .is k xs, j => .it k (xs.getD j 0)
  | .bs xs, j => .bo (xs.getD j false)
  | .ss xs, j => .st (xs.getD j ByteArray.empty)
def lset {α : Type} : List α → Nat → α → List α
  | [], _, _ => []
  | _ :: r, 0, v => v :: r
  | x :: r, n + 1, v => x :: lset r n v
def ikEq : IntKind → IntKind → Bool
  | .i8, .i8 => true | .i16, .i16 => true | .i32, .i32 => true | .i64, .i64 => true
  | .u8, .u8 => true | .u16, .u16 => true | .u32, .u32 => true | .u64, .u64 => true
  | _, _ => false
def fkEq : FloatKind → FloatKind → Bool
  | .f32, .f32 => true | .f64, .f64 => true
  | _, _ => false
def V.boolOf : V → Option Bool
  | .kb x => some x
  | .bo x => some x
  | _ => none
/-- One cell of memory can hold it, and what it is is known. -/
def V.cellOk : V → Bool
  | .agg _ => false
  | .tup _ => false
  | .unk => false
  | .qn => false
  | .er => false
  | _ => true
def SK.of : SK → V → Option Sc
  | .fl k, .fl k' c => bif fkEq k k' then some (.n c) else none
  | .it k, .it k' n => bif ikEq k k' then some (.i n) else none
  | .bo, .bo x => some (.b x)
  | .bo, .kb x => some (.b x)
  | .st, .st x => some (.s x)
  | _, _ => none
def skEq : SK → SK → Bool
  | .fl k, .fl k' => fkEq k k'
  | .it k, .it k' => ikEq k k'
  | .bo, .bo => true
  | .st, .st => true
  | _, _ => false
def sksEq : List SK → List SK → Bool
  | [], [] => true
  | x :: r, y :: s => skEq x y && sksEq r s
  | _, _ => false
def SK.ofV : V → Option SK
  | .fl k _ => some (.fl k)
  | .it k _ => some (.it k)
  | .kb _ => some .bo
  | .st _ => some .st
  | _ => none
def sksOf : List V → Option (List SK)
  | [] => some []
  | v :: r => match SK.ofV v, sksOf r with
    | some k, some ks => some (k :: ks)
    | _, _ => none
def allSk (k : SK) : List SK → Bool
  | [] => true
  | x :: r => skEq k x && allSk k r
/-- The kinds of an element's cells, where they are scalars of more than one kind. -/
def mixK (zero : List V) : Option (List SK) :=
  match sksOf zero with
  | some (k :: r) => match allSk k r with
    | true => none
    | false => some (k :: r)
  | _ => none
def Cells.set : Cells → Nat → V → Option Cells
  | .vs xs, j, v => bif v.cellOk then some (.vs (lset xs j v)) else none
  | .fs k xs, j, .fl k' c => bif fkEq k k' then some (.fs k (xs.set j c)) else none
  | .is k xs, j, .it k' n => bif ikEq k k' then some (.is k (xs.set j n)) else none
  | .bs xs, j, .bo x => some (.bs (xs.set j x))
  | .bs xs, j, .kb x => some (.bs (xs.set j x))
  | .ss xs, j, .st x => some (.ss (xs.set j x))
  | _, _, _ => none
structure Blk where
  wr : Bool
  e : TypeId
  sz : Nat
  c : Cells
abbrev Hp := List (Option Blk)
def hget : Hp → Nat → Option Blk
  | [], _ => none
  | x :: _, 0 => x
  | _ :: r, n + 1 => hget r n
def hset : Hp → Nat → Option Blk → Hp
  | [], _, _ => []
  | _ :: r, 0, v => v :: r
  | x :: r, n + 1, v => x :: hset r n v
def fget : List (Nat × V) → Nat → Option V
  | [], _ => none
  | (s, v) :: r, t => match Nat.beq s t with
    | true => some v
    | false => fget r t

/-! ### 4. What a value and a piece of memory stand for -/
mutual
def V.R (ρ : Nat → Option Loc) : V → Value → Prop
  | .kb x, v => v = .bool x
  | .bo x, v => v = .bool x
  | .it k n, v => v = .int k n
  | .fl k c, v => ∃ bits, v = .float k bits ∧ nz k bits = c
  | .st x, v => v = .string x
  | .pt id off, v => ∃ l, ρ id = some l ∧ v = .pointer (some ⟨l.b, l.o + off, none⟩)
  | .pr id row sz col, v => ∃ l, ρ id = some l ∧ v = .pointer (some ⟨l.b, l.o + (row * sz + col), none⟩)
  | .pn, v => v = .pointer none
  | .sl id off len, v => ∃ a cap, v = .slice a len cap ∧ (len ≤ cap ∧ (len ≠ 0 → ∃ l, ρ id = some l ∧ a = some ⟨l.b, l.o + off, none⟩))
  | .own id len, v => ∃ l, ρ id = some l ∧ v = .slice (some ⟨l.b, 0, none⟩) len l.cap ∧ len ≤ l.cap ∧ l.o = 0
  | .sn, v => v = .slice none 0 0
  | .nf, v => v = .nilFunc
  | .qn, v => ∃ n, v = .int .u32 n ∧ isNaN .f32 n.toNat = true
  | .er, v => v = .nilIface ∨ ∃ t p, v = .iface t p
  | .fu f cap, v => ∃ cs, v = .func (.func f) #[] cs ∧ V.Rs ρ cap cs.toList
  | .agg xs, v => ∃ cs, v = .agg cs ∧ V.Rs ρ xs cs.toList
  | .tup xs, v => ∃ cs, v = .tuple cs ∧ V.Rs ρ xs cs.toList
  | .unk, _ => True
def V.Rs (ρ : Nat → Option Loc) : List V → List Value → Prop
  | [], l => l = []
  | x :: xs, l => ∃ y ys, l = y :: ys ∧ V.R ρ x y ∧ V.Rs ρ xs ys
end
def BlkR (ρ : Nat → Option Loc) (l : Loc) (B : Blk) (w : World) : Prop :=
  ∃ cs e fr, w.heap[l.b]? = some (.cells cs e fr) ∧
    (∀ j, j < B.c.len → ∃ v, cs[l.o + j]? = some v ∧ v.oneCell' = true ∧ V.R ρ (B.c.at j) v) ∧
    ((B.wr = true → fr = (0, 0) ∧ l.o = 0 ∧ e = B.e ∧ cs.size = l.cap * B.sz ∧ l.cap ≤ maxLen) ∧ (B.wr = false → B.sz ≠ 0 → l.b + 1 = B.sz ∧ l.o = 0 ∧ (B.e ≠ 0 → cs.size + 1 = B.e)))
structure HpR (ρ : Nat → Option Loc) (H : Hp) (w : World) : Prop where
  blk : ∀ i B, hget H i = some B → ∃ l, ρ i = some l ∧ BlkR ρ l B w
  sep : ∀ i j B D l m, hget H i = some B → hget H j = some D → i ≠ j → B.wr = true → ρ i = some l → ρ j = some m → l.b ≠ m.b
  dom : ∀ i, H.length ≤ i → ρ i = none
/-- The blocks that may be written. -/
def wrOf (ρ : Nat → Option Loc) (H : Hp) (b : Nat) : Prop := ∃ i B l, hget H i = some B ∧ B.wr = true ∧ ρ i = some l ∧ l.b = b
structure WExt (w0 : World) (wr : Nat → Prop) (w : World) : Prop where
  os : w.os = w0.os
  tape : w.tape = w0.tape
  output : w.output = w0.output
  size : w0.heap.size ≤ w.heap.size
  old : ∀ b, b < w0.heap.size → ¬ wr b → w.heap[b]? = w0.heap[b]?
/-- What a call leaves: its blocks of before keep their places; what may be written was handed in, or is new. -/
structure Left (ρ : Nat → Option Loc) (H : Hp) (w : World) (ρ' : Nat → Option Loc) (H' : Hp) (w' : World) : Prop where
  hp : HpR ρ' H' w'
  ext : WExt w (wrOf ρ H) w'
  same : ∀ i, i < H.length → ρ' i = ρ i
  mine : ∀ i B l, hget H' i = some B → ρ' i = some l → (B.wr = false ∧ ∃ D, hget H i = some D) ∨ wrOf ρ H l.b ∨ w.heap.size ≤ l.b
  len : H.length ≤ H'.length

/-! ### 5. The context -/
structure TI where
  d : TypeDesc
  size : Nat
  bytes : Nat
  zero : List V
inductive X where
  | nrm
  | ex (id : Nat)
  | ret
def X.toExit : X → Exit
  | .nrm => .normal
  | .ex id => .exit id
  | .ret => .ret
inductive Con where
  /-- A function that only computes. -/
  | q (F : List V → Hp → T V)
  | e (F : List V → Hp → T (V × Hp))
structure LoopS where
  keep : List Nat
  out : List Nat
  L : List V → Hp → T (X × List V × Hp)
structure Ctx where
  ty : List (Nat × TI)
  fn : List (Nat × Con)
  lp : List (Nat × LoopS)
  /-- How many slots the frame has; how many blocks were handed in. -/
  n : Nat
  k : Nat
  /-- How many of these are variables of the program's own, which every call is handed. -/
  g : Nat := 0
  /-- The types of structs that may be compared, and of how many whole numbers they are. -/
  eq : List (Nat × Nat) := []
def alook {α : Type} : List (Nat × α) → Nat → Option α
  | [], _ => none
  | (s, v) :: r, t => match Nat.beq s t with
    | true => some v
    | false => alook r t
def RK (C : Ctx) (e : TypeId) : Option TypeDesc := (alook C.ty e).map (·.d)

/-! ### 6. Operands and small helpers -/
def ofSc : Value → Option V
  | .bool x => some (.kb x)
  | .int k n => some (.it k n)
  | .float k c => some (.fl k (nz k c))
  | .string x => some (.st x)
  | .pointer none => some .pn
  | .slice none 0 0 => some .sn
  | .nilFunc => some .nf
  | _ => none
def ofScs : List Value → Option (List V)
  | [] => some []
  | v :: r => match ofSc v, ofScs r with
    | some x, some xs => some (x :: xs)
    | _, _ => none
def ofVal : Value → Option V
  | .agg cs => (ofScs cs.toList).map .agg
  | .tuple cs => (ofScs cs.toList).map .tup
  | v => ofSc v
def ev (fr : List (Nat × V)) : Operand → Option V
  | .tmp t => fget fr t
  | .const v => ofVal v
  | .global _ => none
  | .func f => some (.fu f [])
def evs (fr : List (Nat × V)) : List Operand → Option (List V)
  | [] => some []
  | o :: r => match ev fr o, evs fr r with
    | some x, some xs => some (x :: xs)
    | _, _ => none
/-- The cells of a value. -/
def V.cells : V → Option (List V)
  | .agg xs => some xs
  | .tup _ => none
  | .unk => none
  | .qn => none
  | .er => none
  | v => some [v]
def allCellOk : List V → Bool
  | [] => true
  | v :: r => v.cellOk && allCellOk r
def isAggD : TypeDesc → Bool
  | .struct _ => true
  | .array _ _ => true
  | _ => false
def atRange (c : Cells) (off : Nat) : Nat → List V
  | 0 => []
  | n + 1 => c.at off :: atRange c (off + 1) n
def setRange (c : Cells) (off : Nat) : List V → Option Cells
  | [] => some c
  | v :: r => match c.set off v with
    | some c' => setRange c' (off + 1) r
    | none => none
def lit0 : Operand → Option Int
  | .const (.int _ n) => some n
  | _ => none
def ibits (op : BinOp) (k : IntKind) (x y : Int) : Int :=
  let a := BitVec.ofInt k.bits x
  let b := BitVec.ofInt k.bits y
  k.wrap (match op with
  | .and => (a &&& b).toNat
  | .or => (a ||| b).toNat
  | .xor => (a ^^^ b).toNat
  | _ => (a &&& ~~~b).toNat)
def binI (op : BinOp) (k : IntKind) (lit : Bool) (x y : Int) : T V :=
  match op with
  | .add => .leaf (.it k (k.wrap (x + y)))
  | .sub => .leaf (.it k (k.wrap (x - y)))
  | .mul => .leaf (.it k (k.wrap (x * y)))
  | .quo => match lit with
    | true => match y == 0 with
      | true => .bad
      | false => .leaf (.it k (k.wrap (x.tdiv y)))
    | false => .br (y == 0) .bad (.leaf (.it k (k.wrap (x.tdiv y))))
  | .rem => match lit with
    | true => match y == 0 with
      | true => .bad
      | false => .leaf (.it k (x.tmod y))
    | false => .br (y == 0) .bad (.leaf (.it k (x.tmod y)))
  | .and => .leaf (.it k (ibits .and k x y))
  | .or => .leaf (.it k (ibits .or k x y))
  | .xor => .leaf (.it k (ibits .xor k x y))
  | .andNot => .leaf (.it k (ibits .andNot k x y))
  | .eql => .leaf (.bo (x == y))
  | .neq => .leaf (.bo (x != y))
  | .lss => .leaf (.bo (decide (x < y)))
  | .leq => .leaf (.bo (decide (x ≤ y)))
  | .gtr => .leaf (.bo (decide (x > y)))
  | .geq => .leaf (.bo (decide (x ≥ y)))
  | _ => .bad
def shiftI (op : BinOp) (k : IntKind) (lit : Bool) (x y : Int) : T V :=
  let r : T V := match op with
    | .shl => .leaf (.it k (k.wrap (x * 2 ^ min y.toNat k.bits)))
    | .shr => .leaf (.it k (x.fdiv (2 ^ min y.toNat k.bits)))
    | _ => .bad
  match lit with
  | true => match decide (y < 0) with
    | true => .bad
    | false => r
  | false => .br (decide (y < 0)) .bad r
def binF (op : BinOp) (k : FloatKind) (x y : Nat) : T V :=
  match op with
  | .add => .leaf (.fl k (fadd k x y))
  | .sub => .leaf (.fl k (fsub k x y))
  | .mul => .leaf (.fl k (fmul k x y))
  | .quo => .leaf (.fl k (fdiv k x y))
  | .eql => .leaf (.bo (feq k x y))
  | .neq => .leaf (.bo (fne k x y))
  | .lss => .leaf (.bo (flt k x y))
  | .leq => .leaf (.bo (fle k x y))
  | .gtr => .leaf (.bo (fgt k x y))
  | .geq => .leaf (.bo (fge k x y))
  | _ => .bad
def seq? (x y : ByteArray) : Bool := x.toList == y.toList
def binS (op : BinOp) (x y : ByteArray) : T V :=
  match op with
  | .add => .br (decide (((x.size + y.size : Nat) : Int) > IntKind.i64.max)) .bad (.leaf (.st (x ++ y)))
  | .eql => .leaf (.bo (seq? x y))
  | .neq => .leaf (.bo (!seq? x y))
  | _ => .bad
def litB : V → V → Bool
  | .kb _, .kb _ => true
  | _, _ => false
def isShift : BinOp → Bool
  | .shl => true
  | .shr => true
  | _ => false
def binB (op : BinOp) (t : TypeDesc) (a c : Bool) : T V :=
  match op, t with
  | .eql, .bool => .leaf (.bo (a == c))
  | .neq, .bool => .leaf (.bo (!(a == c)))
  | _, _ => .bad
def binV (op : BinOp) (t : TypeDesc) (lit : Bool) : V → V → T V
  | .it k a, .it k' c => match isShift op with
    | true => shiftI op k lit a c
    | false => match ikEq k k' with
      | true => binI op k lit a c
      | false => .bad
  | .fl k a, .fl k' c => match fkEq k k' with
    | true => binF op k a c
    | false => .bad
  | .st a, .st c => binS op a c
  | .kb a, .kb c => binB op t a c
  | .kb a, .bo c => binB op t a c
  | .bo a, .kb c => binB op t a c
  | .bo a, .bo c => binB op t a c
  | .qn, .it .u32 c => match op with
    | .eql => .br (isNaN .f32 c.toNat) .bad (.leaf (.bo false))
    | .neq => .br (isNaN .f32 c.toNat) .bad (.leaf (.bo true))
    | _ => .bad
  | .it .u32 c, .qn => match op with
    | .eql => .br (isNaN .f32 c.toNat) .bad (.leaf (.bo false))
    | .neq => .br (isNaN .f32 c.toNat) .bad (.leaf (.bo true))
    | _ => .bad
  | _, _ => .bad
/-- Whole numbers, as such. -/
def intsV : List V → Option (List Int)
  | [] => some []
  | .it k n :: r => match ikEq k .i64, intsV r with
    | true, some l => some (n :: l)
    | _, _ => none
  | _ => none
def eqInts : List Int → List Int → Bool
  | [], [] => true
  | a :: r, b :: s => (a == b) && eqInts r s
  | _, _ => false
/-- Two structs of n whole numbers. -/
def eqV (n : Nat) (op : BinOp) (xs ys : List V) : T V :=
  match Nat.beq xs.length n, Nat.beq ys.length n, intsV xs, intsV ys with
  | true, true, some a, some b => match op with
    | .eql => .leaf (.bo (eqInts a b))
    | .neq => .leaf (.bo (!(eqInts a b)))
    | _ => .bad
  | _, _, _, _ => .bad
def opBin (fr : List (Nat × V)) (op : BinOp) (t : TypeDesc) (x y : Operand) : T V :=
  match ev fr x, ev fr y with
  | some a, some c => binV op t (lit0 y).isSome a c
  | _, _ => .bad
def opUn (op : UnOp) : V → T V
  | .it k n => match op with
    | .neg => .leaf (.it k (k.wrap (0 - n)))
    | _ => .bad
  | .fl k c => match op with
    | .neg => .leaf (.fl k (fneg k c))
    | _ => .bad
  | .kb x => match op with
    | .not => .leaf (.kb (!x))
    | _ => .bad
  | .bo x => match op with
    | .not => .leaf (.bo (!x))
    | _ => .bad
  | _ => .bad
def opConv (dst : TypeDesc) : V → T V
  | .it _ n => match dst with
    | .int k => .leaf (.it k (k.wrap n))
    | .float k => .leaf (.fl k (fofint k n))
    | _ => .bad
  | .fl s c => match dst with
    | .int k => .br (ftoiOk s k c) (.leaf (.it k (ftoi s k c))) .bad
    | .float k => match fkEq s k with
      | true => .leaf (.fl k c)
      | false => .br (fcvOpen s k c) .bad (.leaf (.fl k (fcv s k c)))
    | _ => .bad
  | .st x => match dst with
    | .string => .leaf (.st x)
    | _ => .bad
  | _ => .bad
def bounds (i : Int) (len : Nat) : Bool := decide (0 ≤ i) && decide (i < len)
def fieldOff (d : TypeDesc) (f : Nat) : Option (TypeId × Nat) :=
  match d with
  | .struct fs => match fs.toList[f]? with
    | some x => some (x.type, x.offset)
    | none => none
  | _ => none
def loadQ (C : Ctx) (H : Hp) (ti : TI) (id off : Nat) : T V :=
  match hget H id with
  | some B =>
    let r : T V := match isAggD ti.d with
      | true => .leaf (.agg (atRange B.c off ti.size))
      | false => .leaf (B.c.at off)
    let n := match isAggD ti.d with
      | true => ti.size
      | false => 1
    match B.c with
    | .vs xs => match Nat.ble (off + n) xs.length with
      | true => r
      | false => .bad
    | c => .br (Nat.ble (off + n) c.len) r .bad
  | none => .bad
/-- n cells of a row, from column col on. -/
def colsAt (ks : List SK) (xs : List (List Sc)) (row col : Nat) : Nat → List V
  | 0 => []
  | n + 1 => colAt ks xs row col :: colsAt ks xs row (col + 1) n
def loadP (H : Hp) (ti : TI) (id row sz col : Nat) : T V :=
  match hget H id with
  | some B => match B.c with
    | .mx ks xs =>
      let n := match isAggD ti.d with
        | true => ti.size
        | false => 1
      match Nat.beq sz ks.length && Nat.ble (col + n) sz with
      | true => .br (Nat.ble (row + 1) xs.length) (.leaf (match isAggD ti.d with
        | true => .agg (colsAt ks xs row col n)
        | false => colAt ks xs row col)) .bad
      | false => .bad
    | _ => .bad
  | none => .bad
def byteAt (s : ByteArray) (i : Int) : Int := ((s.data.toList.getD i.toNat 0).toNat : Int)
def idxQ (C : Ctx) (ti : TI) (x : V) (i : Int) (lit : Bool) : T V :=
  match ti.d, x with
  | .slice e, .sl id off len => match alook C.ty e with
    | some te => .br (bounds i len) (.leaf (.pt id (off + i.toNat * te.size))) .bad
    | none => .bad
  | .slice e, .own id len => match alook C.ty e with
    | some te => match mixK te.zero with
      | some _ => .br (bounds i len) (.leaf (.pr id i.toNat te.size 0)) .bad
      | none => .br (bounds i len) (.leaf (.pt id (i.toNat * te.size))) .bad
    | none => .bad
  | .array n e, .pt id off => match alook C.ty e, lit with
    | some te, true => match bounds i n with
      | true => .leaf (.pt id (off + i.toNat * te.size))
      | false => .bad
    | some te, false => .br (bounds i n) (.leaf (.pt id (off + i.toNat * te.size))) .bad
    | none, _ => .bad
  | _, _ => .bad
def sub? (xs : List V) (off : Nat) : Nat → List V
  | 0 => []
  | n + 1 => lgetD .unk xs off :: sub? xs (off + 1) n
def partQ (C : Ctx) (t : TypeId) (xs : List V) (off : Nat) : T V :=
  match alook C.ty t with
  | some te => match isAggD te.d with
    | true => match Nat.ble (off + te.size) xs.length with
      | true => .leaf (.agg (sub? xs off te.size))
      | false => .bad
    | false => match Nat.ble (off + 1) xs.length with
      | true => .leaf (lgetD .unk xs off)
      | false => .bad
  | none => .bad
def indexQ (C : Ctx) (ti : TI) (x : V) (i : Int) (lit : Bool) : T V :=
  match ti.d, x with
  | .string, .st s => .br (bounds i s.size) (.leaf (.it .u8 (byteAt s i))) .bad
  | .array n e, .agg xs => match alook C.ty e, lit with
    | some te, true => match bounds i n with
      | true => partQ C e xs (i.toNat * te.size)
      | false => .bad
    | _, _ => .bad
  | _, _ => .bad
def intOfV : V → Option Int
  | .it _ n => some n
  | _ => none
def optInt (fr : List (Nat × V)) : Option Operand → Option (Option Int)
  | none => some none
  | some o => match ev fr o with
    | some (.it _ n) => some (some n)
    | _ => none
/-- x[lo:hi] of a string or a slice. -/
def sliceQ (C : Ctx) (ti : TI) (x : V) (lo hi : Option Int) : T V :=
  match ti.d, x with
  | .string, .st s =>
    let h : Int := hi.getD s.size
    let l : Int := lo.getD 0
    .br (decide (0 ≤ l) && decide (l ≤ h) && decide (h ≤ s.size)) (.leaf (.st (s.extract l.toNat h.toNat))) .bad
  | .slice e, .sl id off len => match alook C.ty e with
    | some te =>
      let h : Int := hi.getD len
      let l : Int := lo.getD 0
      .br (decide (0 ≤ l) && decide (l ≤ h) && decide (h ≤ len)) (.leaf (.sl id (off + l.toNat * te.size) (h.toNat - l.toNat))) .bad
    | none => .bad
  | .slice e, .own id len => match alook C.ty e with
    | some te =>
      let h : Int := hi.getD len
      let l : Int := lo.getD 0
      .br (decide (0 ≤ l) && decide (l ≤ h) && decide (h ≤ len)) (.leaf (.sl id (l.toNat * te.size) (h.toNat - l.toNat))) .bad
    | none => .bad
  | _, _ => .bad
def lenS : V → T V
  | .st x => .leaf (.it .i64 x.size)
  | _ => .bad
def lenL : V → T V
  | .sl _ _ n => .leaf (.it .i64 n)
  | .own _ n => .leaf (.it .i64 n)
  | .sn => .leaf (.it .i64 0)
  | _ => .bad
def min2 : V → V → T V
  | .it k x, .it k' y => match ikEq k k' with
    | true => .leaf (.it k (if y < x then y else x))
    | false => .bad
  | .fl k x, .fl k' y => match fkEq k k' with
    | true => .leaf (.fl k (fmin k x y))
    | false => .bad
  | _, _ => .bad
def max2 : V → V → T V
  | .it k x, .it k' y => match ikEq k k' with
    | true => .leaf (.it k (if y > x then y else x))
    | false => .bad
  | .fl k x, .fl k' y => match fkEq k k' with
    | true => .leaf (.fl k (fmax k x y))
    | false => .bad
  | _, _ => .bad

/-! ### 7. Identities: what a value leads to; renaming -/
mutual
def V.ids : V → List Nat
  | .pt id _ => [id]
  | .pr id _ _ _ => [id]
  | .sl id _ _ => [id]
  | .own id _ => [id]
  | .fu _ cap => V.idsL cap
  | .agg xs => V.idsL xs
  | .tup xs => V.idsL xs
  | _ => []
def V.idsL : List V → List Nat
  | [] => []
  | x :: r => V.ids x ++ V.idsL r
end
def memN : List Nat → Nat → Bool
  | [], _ => false
  | x :: r, n => match Nat.beq x n with
    | true => true
    | false => memN r n
def addN (H : Hp) : List Nat → List Nat → List Nat
  | acc, [] => acc
  | acc, n :: r => match memN acc n, hget H n with
    | false, some _ => addN H (acc ++ [n]) r
    | _, _ => addN H acc r
def Cells.ids : Cells → List Nat
  | .vs xs => V.idsL xs
  | _ => []
def idsOf (H : Hp) : List Nat → List Nat
  | [] => []
  | n :: r => match hget H n with
    | some B => B.c.ids ++ idsOf H r
    | none => idsOf H r
def reach (H : Hp) (acc ids : List Nat) : List Nat :=
  let a := addN H acc ids
  let b := addN H a (idsOf H a)
  let c := addN H b (idsOf H b)
  addN H c (idsOf H c)
def idxN : List Nat → Nat → Option Nat
  | [], _ => none
  | x :: r, n => match Nat.beq x n with
    | true => some 0
    | false => match idxN r n with
      | some j => some (j + 1)
      | none => none
mutual
/-- Renamed by g; where g knows no name, the value is unknown. -/
def V.ren (g : Nat → Option Nat) : V → V
  | .pt id off => match g id with
    | some j => .pt j off
    | none => .unk
  | .pr id row sz col => match g id with
    | some j => .pr j row sz col
    | none => .unk
  | .sl id off n => match g id with
    | some j => .sl j off n
    | none => .unk
  | .own id n => match g id with
    | some j => .own j n
    | none => .unk
  | .fu f cap => .fu f (V.renL g cap)
  | .agg xs => .agg (V.renL g xs)
  | .tup xs => .tup (V.renL g xs)
  | .kb x => .bo x
  | v => v
def V.renL (g : Nat → Option Nat) : List V → List V
  | [] => []
  | x :: r => V.ren g x :: V.renL g r
end
def Cells.ren (g : Nat → Option Nat) : Cells → Cells
  | .vs xs => .vs (V.renL g xs)
  | c => c
def Blk.ren (g : Nat → Option Nat) (B : Blk) : Blk := { B with c := B.c.ren g }
def cut (H : Hp) (ids : List Nat) : List Nat → Hp
  | [] => []
  | n :: r => (match hget H n with
    | some B => some (B.ren (idxN ids))
    | none => none) :: cut H ids r
def below : Nat → List Nat
  | 0 => []
  | n + 1 => below n ++ [n]
/-- Blocks that nothing leads to are forgotten; the first k keep their names. -/
def gc (k : Nat) (vs : List V) (H : Hp) : List V × Hp :=
  let ids := reach H (below k) (V.idsL vs)
  (V.renL (idxN ids) vs, cut H ids ids)
/-- From names within a call to names of the caller's: the first are 'ids', the others lie behind the caller's. -/
def outN (ids : List Nat) (base : Nat) (j : Nat) : Option Nat :=
  match Nat.blt j ids.length with
  | true => lget ids j
  | false => some (base + (j - ids.length))
def renO (g : Nat → Option Nat) : Option Blk → Option Blk
  | some B => some (B.ren g)
  | none => none
def putBack (g : Nat → Option Nat) : Hp → List Nat → Hp → Hp
  | H, [], H2 => H ++ H2.map (renO g)
  | H, n :: r, x :: H2 => putBack g (hset H n (renO g x)) r H2
  | H, _ :: _, [] => H

/-! ### 8. Operations -/
def knows (ids : List Nat) : List Nat → Bool
  | [] => true
  | n :: r => memN ids n && knows ids r
def callQ (C : Ctx) (H : Hp) (f : FuncId) (args : List V) : T V :=
  match alook C.fn f with
  | some (.q F) =>
    let ids := reach H [] (below C.g ++ V.idsL args)
    match knows ids (idsOf H ids) with
    | true => (F (V.renL (idxN ids) args) (cut H ids ids)).bind fun v => .leaf (v.ren (lget ids))
    | false => .bad
  | _ => .bad
def callE (C : Ctx) (H : Hp) (f : FuncId) (args : List V) : T (V × Hp) :=
  match alook C.fn f with
  | some (.q _) => (callQ C H f args).bind fun v => .leaf (v, H)
  | some (.e F) =>
    let ids := reach H [] (below C.g ++ V.idsL args)
    (F (V.renL (idxN ids) args) (cut H ids ids)).bind fun r =>
      .leaf (r.1.ren (outN ids H.length), putBack (outN ids H.length) H ids r.2)
  | none => .bad
/-- Operations that change no memory that is known. -/
def opQ (C : Ctx) (fr : List (Nat × V)) (H : Hp) (o : Op) : T V :=
  match o with
  | .move x => match ev fr x with
    | some v => .leaf v
    | none => .bad
  | .assign x => match ev fr x with
    | some v => .leaf v
    | none => .bad
  | .pick c a b => match ev fr c with
    | some (.kb true) => match ev fr a with
      | some v => .leaf v
      | none => .bad
    | some (.kb false) => match ev fr b with
      | some v => .leaf v
      | none => .bad
    | some (.bo t) => match ev fr a, ev fr b with
      | some v, some u => .br t (.leaf v) (.leaf u)
      | _, _ => .bad
    | _ => .bad
  | .load t a => match alook C.ty t, ev fr a with
    | some ti, some (.pt id off) => loadQ C H ti id off
    | some ti, some (.pr id row sz col) => loadP H ti id row sz col
    | _, _ => .bad
  | .nilCheck a => match ev fr a with
    | some (.pt id off) => .leaf (.pt id off)
    | some (.pr id row sz col) => .leaf (.pr id row sz col)
    | some (.fu f cap) => .leaf (.fu f cap)
    | _ => .bad
  | .binOp op t x y _ => match alook C.ty t with
    | some ti => match alook C.eq t with
      | none => opBin fr op ti.d x y
      | some n => match ev fr x, ev fr y with
        | some (.agg xs), some (.agg ys) => eqV n op xs ys
        | _, _ => .bad
    | none => .bad
  | .unOp op _ x => match ev fr x with
    | some v => opUn op v
    | none => .bad
  | .convert s d x => match alook C.ty s, alook C.ty d, ev fr x with
    | some _, some di, some v => opConv di.d v
    | _, _, _ => .bad
  | .makeFunc (.func f) first captured => match first.toList, evs fr captured.toList with
    | [], some vs => .leaf (.fu f vs)
    | _, _ => .bad
  | .slice t x lo hi none => match alook C.ty t, ev fr x, optInt fr lo, optInt fr hi with
    | some ti, some v, some l, some h => sliceQ C ti v l h
    | _, _, _, _ => .bad
  | .fieldAddr t x f => match alook C.ty t, ev fr x with
    | some ti, some (.pt id off) => match fieldOff ti.d f with
      | some (ft, o) => match alook C.ty ft with
        | some fi => match fi.size with
          | 0 => .bad
          | _ + 1 => .leaf (.pt id (off + o))
        | none => .bad
      | none => .bad
    | some ti, some (.pr id row sz col) => match fieldOff ti.d f with
      | some (ft, o) => match alook C.ty ft with
        | some fi => match fi.size with
          | 0 => .bad
          | _ + 1 => .leaf (.pr id row sz (col + o))
        | none => .bad
      | none => .bad
    | _, _ => .bad
  | .field t x f => match alook C.ty t, ev fr x with
    | some ti, some (.agg xs) => match fieldOff ti.d f with
      | some (ft, o) => partQ C ft xs o
      | none => .bad
    | _, _ => .bad
  | .indexAddr t x y => match alook C.ty t, ev fr x, ev fr y with
    | some ti, some v, some (.it _ n) => idxQ C ti v n (lit0 y).isSome
    | _, _, _ => .bad
  | .index t x y => match alook C.ty t, ev fr x, ev fr y with
    | some ti, some v, some (.it _ n) => indexQ C ti v n (lit0 y).isSome
    | _, _, _ => .bad
  | .extract x n => match ev fr x with
    | some (.tup xs) => match lget xs n with
      | some v => .leaf v
      | none => .bad
    | _ => .bad
  | .call c => match c.callee with
    | .builtin .len => match c.argTypes.toList, evs fr c.args.toList with
      | t :: _, some [v] => match alook C.ty t with
        | some ti => match ti.d with
          | .string => lenS v
          | .slice _ => lenL v
          | .array n _ => .leaf (.it .i64 n)
          | _ => .bad
        | none => .bad
      | _, _ => .bad
    | .builtin .min => match evs fr c.args.toList with
      | some [a, b] => min2 a b
      | _ => .bad
    | .builtin .max => match evs fr c.args.toList with
      | some [a, b] => max2 a b
      | _ => .bad
    | .value (.func f) => match evs fr c.args.toList with
      | some args => callQ C H f args
      | none => .bad
    | _ => .bad
  | _ => .bad
/-- A row with another cell at a column. -/
def setCol : List Sc → Nat → Sc → List Sc
  | [], 0, x => [x]
  | [], n + 1, x => .n 0 :: setCol [] n x
  | _ :: r, 0, x => x :: r
  | y :: r, n + 1, x => y :: setCol r n x
/-- A new block. -/
def newB (e : TypeId) (sz : Nat) (c : Cells) : Blk := { wr := true, e := e, sz := sz, c := c }
def fillV (place : Nat → Option (Nat × Nat)) (cells : List V) : List (Nat × List V) → Option (List V)
  | [] => some cells
  | (i, v) :: r => match place i with
    | none => none
    | some (off, size) => match Nat.beq v.length size && Nat.ble (off + v.length) cells.length with
      | true => fillV place (setV cells off v) r
      | false => none
where
  setV (cs : List V) (off : Nat) : List V → List V
    | [] => cs
    | v :: r => setV (lset cs off v) (off + 1) r
def partsV (fr : List (Nat × V)) : List (Nat × Operand) → Option (List (Nat × List V))
  | [] => some []
  | (i, o) :: r => match ev fr o, partsV fr r with
    | some v, some ps => match v.cells with
      | some cs => match allCellOk cs with
        | true => some ((i, cs) :: ps)
        | false => none
      | none => none
    | _, _ => none
def placesOf (C : Ctx) : List Field → Option (List (Nat × Nat))
  | [] => some []
  | f :: r => match alook C.ty f.type, placesOf C r with
    | some ti, some ps => some ((f.offset, ti.size) :: ps)
    | _, _ => none
def buildE (C : Ctx) (fr : List (Nat × V)) (ti : TI) (parts : List (Nat × Operand)) : T V :=
  match ti.d with
  | .struct fs => match placesOf C fs.toList, partsV fr parts with
    | some pl, some ps => match fillV (lget pl) ti.zero ps with
      | some cs => .leaf (.agg cs)
      | none => .bad
    | _, _ => .bad
  | .array n e => match alook C.ty e, partsV fr parts with
    | some te, some ps => match fillV (fun i => some (i * te.size, te.size)) ti.zero ps with
      | some cs => .leaf (.agg cs)
      | none => .bad
    | _, _ => .bad
  | _ => .bad
/-- The cells of a row, in the form that its element's kind has. -/
def rowFs (k : FloatKind) : List V → Option (List Nat)
  | [] => some []
  | .fl k' c :: r => match fkEq k k', rowFs k r with
    | true, some xs => some (c :: xs)
    | _, _ => none
  | _ :: _ => none
def rowIs (k : IntKind) : List V → Option (List Int)
  | [] => some []
  | .it k' n :: r => match ikEq k k', rowIs k r with
    | true, some xs => some (n :: xs)
    | _, _ => none
  | _ :: _ => none
def rowBs : List V → Option (List Bool)
  | [] => some []
  | .kb x :: r => (rowBs r).map (x :: ·)
  | .bo x :: r => (rowBs r).map (x :: ·)
  | _ :: _ => none
def rowSs : List V → Option (List ByteArray)
  | [] => some []
  | .st x :: r => (rowSs r).map (x :: ·)
  | _ :: _ => none
/-- The first cells of a row, one for each kind; what is left. -/
def scsOf : List SK → List V → Option (List Sc × List V)
  | [], l => some ([], l)
  | k :: ks, v :: r => match k.of v, scsOf ks r with
    | some x, some (xs, l) => some (x :: xs, l)
    | _, _ => none
  | _ :: _, [] => none
/-- Cells, row by row; 'fuel': at least as many as there are rows. -/
def rowMx (ks : List SK) : Nat → List V → Option (List (List Sc))
  | _, [] => some []
  | 0, _ :: _ => none
  | n + 1, l => match scsOf ks l with
    | some (x, r) => match rowMx ks n r with
      | some xs => some (x :: xs)
      | none => none
    | none => none
/-- Which form a row of cells takes whose element's zero value has these cells. -/
def rowOf (zero : List V) (xs : List V) : Option Cells :=
  match mixK zero with
  | some ks => (rowMx ks xs.length xs).map (.mx ks)
  | none => match zero with
  | .fl k _ :: r => match rowFs k r with
    | some _ => (rowFs k xs).map (.fs k)
    | none => some (.vs xs)
  | .it k _ :: r => match rowIs k r with
    | some _ => (rowIs k xs).map (.is k)
    | none => some (.vs xs)
  | [.kb _] => (rowBs xs).map .bs
  | [.st _] => (rowSs xs).map .ss
  | _ => some (.vs xs)
def repV (zero : List V) : Nat → List V
  | 0 => []
  | n + 1 => zero ++ repV zero n
/-- n zero elements, n not known. -/
def zeroRow (zero : List V) (n : Nat) : Option Cells :=
  match zero with
  | .fl k c :: r => match rowFs k r with
    | some cs => bif cs.all (Nat.beq c) then some (.fs k (List.replicate (n * (cs.length + 1)) c)) else none
    | none => none
  | .it k c :: r => match rowIs k r with
    | some cs => bif cs.all (· == c) then some (.is k (List.replicate (n * (cs.length + 1)) c)) else none
    | none => none
  | [.kb x] => some (.bs (List.replicate n x))
  | [.st x] => some (.ss (List.replicate n x))
  | _ => none
/-- Cells behind one another, of one form. -/
def Cells.app : Cells → Cells → Option Cells
  | .vs a, .vs b => some (.vs (a ++ b))
  | .mx ks a, .mx ks' b => bif sksEq ks ks' then some (.mx ks (a ++ b)) else none
  | .fs k a, .fs k' b => bif fkEq k k' then some (.fs k (a ++ b)) else none
  | .is k a, .is k' b => bif ikEq k k' then some (.is k (a ++ b)) else none
  | .bs a, .bs b => some (.bs (a ++ b))
  | .ss a, .ss b => some (.ss (a ++ b))
  | _, _ => none
/-- n cells from off on. -/
def Cells.sub : Cells → Nat → Nat → Cells
  | .vs a, off, n => .vs ((a.drop off).take n)
  | .mx ks a, off, n => .vs (atRange (.mx ks a) off n)
  | .fs k a, off, n => .fs k ((a.drop off).take n)
  | .is k a, off, n => .is k ((a.drop off).take n)
  | .bs a, off, n => .bs ((a.drop off).take n)
  | .ss a, off, n => .ss ((a.drop off).take n)
/-- What a slice holds, as cells; how many elements; whether they are known. -/
def srcOf (te : TI) (H : Hp) : V → Option (Cells × Nat × Bool)
  | .sl id off n => (hget H id).map fun B => (B.c.sub off (n * te.size), n, Nat.ble (off + n * te.size) B.c.len)
  | .own id n => (hget H id).map fun B => match B.c with
    | .mx ks xs => (.mx ks xs, n, Nat.beq (n * te.size) (xs.length * ks.length))
    | c => (c.sub 0 (n * te.size), n, Nat.ble (n * te.size) c.len)
  | .sn => (rowOf te.zero []).map fun c => (c, 0, true)
  | _ => none
/-- append(x, y...): x is a slice that owns its row, or nil; y a slice. -/
def appendE (C : Ctx) (H : Hp) (ti : TI) (x y : V) : T (V × Hp) :=
  match ti.d with
  | .slice e => match alook C.ty e with
    | some te =>
      match srcOf te H y, te.size, Nat.beq te.zero.length te.size with
      | some (c, n, fits), _ + 1, true => match x with
        | .sn => match rowOf te.zero [] with
          | some c0 => match c0.app c with
            | some c' => .br (fits && (Nat.ble 1 n && Nat.ble (n * te.bytes) 35184372088832 && Nat.ble n 35184372088832)) (.leaf (.own H.length n, H ++ [some (newB e te.size c')])) .bad
            | none => .bad
          | none => .bad
        | .own id len => match hget H id with
          | some B => match B.c.app c, B.wr, Nat.beq B.sz te.size && Nat.beq B.e e with
            | some c', true, true => .br (fits && (Nat.beq B.c.len (len * te.size) && Nat.ble ((len + n) * te.bytes) 35184372088832 && Nat.ble (len + n) 35184372088832))
                (.leaf (.own H.length (len + n), hset H id none ++ [some (newB e te.size c')])) .bad
            | _, _, _ => .bad
          | none => .bad
        | _ => .bad
      | _, _, _ => .bad
    | none => .bad
  | _ => .bad
def strOf (xs : List Int) : ByteArray := xs.foldl (fun r n => r.push (UInt8.ofNat n.toNat)) ByteArray.empty
/-- The cells of a variable: those of an array of numbers are a row. -/
def varRow (d : Option TI) (cs : List V) : Cells :=
  match d with
  | some ti => match ti.d with
    | .array _ _ => match cs with
      | .it k _ :: _ => match rowIs k cs with
        | some ys => .is k ys
        | none => .vs cs
      | .fl k _ :: _ => match rowFs k cs with
        | some ys => .fs k ys
        | none => .vs cs
      | _ => .vs cs
    | _ => .vs cs
  | none => .vs cs
/-- Operations that make or change memory. -/
def opE (C : Ctx) (fr : List (Nat × V)) (H : Hp) (o : Op) : T (V × Hp) :=
  match o with
  | .alloc e => match alook C.ty e with
    | some ti => match allCellOk ti.zero with
      | true => .leaf (.pt H.length 0, H ++ [some (newB e ti.zero.length (varRow (some ti) ti.zero))])
      | false => .bad
    | none => .bad
  | .box e x => match ev fr x with
    | some v => match v.cells with
      | some cs => match allCellOk cs with
        | true => .leaf (.pt H.length 0, H ++ [some (newB e cs.length (varRow (alook C.ty e) cs))])
        | false => .bad
      | none => .bad
    | none => .bad
  | .build t parts => match alook C.ty t with
    | some ti => (buildE C fr ti parts.toList).bind fun v => .leaf (v, H)
    | none => .bad
  | .buildSlice t n parts => match alook C.ty t with
    | some ti => match ti.d with
      | .slice e => match alook C.ty e, partsV fr parts.toList with
        | some te, some ps => match Nat.ble (n * te.size) 16777216 && Nat.ble n 16777216, fillV (fun i => some (i * te.size, te.size)) (repV te.zero n) ps with
          | true, some cs => match rowOf te.zero cs, allCellOk cs && Nat.beq te.zero.length te.size with
            | some c, true => .leaf (.own H.length n, H ++ [some (newB e te.size c)])
            | _, _ => .bad
          | _, _ => .bad
        | _, _ => .bad
      | _ => .bad
    | none => .bad
  | .makeSlice t l c => match alook C.ty t, ev fr l, ev fr c with
    | some ti, some (.it .i64 n), some (.it .i64 m) => match ti.d with
      | .slice e => match alook C.ty e with
        | some te => match zeroRow te.zero n.toNat, Nat.beq te.zero.length te.size, te.size with
          | some cs, true, _ + 1 => .br (decide (0 ≤ n) && decide (n ≤ m) && decide (m ≤ 35184372088832) && decide (te.bytes * m ≤ 35184372088832))
              (.leaf (.own H.length n.toNat, H ++ [some (newB e te.size cs)])) .bad
          | _, _, _ => .bad
        | none => .bad
      | _ => .bad
    | _, _, _ => .bad
  | .store t a x => match alook C.ty t, ev fr a, ev fr x with
    | some ti, some (.pt id off), some v => match hget H id, v.cells with
      | some B, some cs => match B.wr, allCellOk cs && Nat.beq cs.length ti.size with
        | true, true => match setRange B.c off cs with
          | some c' => match B.c with
            | .vs xs => match Nat.ble (off + cs.length) xs.length with
              | true => .leaf (.tup [], hset H id (some { B with c := c' }))
              | false => .bad
            | c => .br (Nat.ble (off + cs.length) c.len) (.leaf (.tup [], hset H id (some { B with c := c' }))) .bad
          | none => .bad
        | _, _ => .bad
      | _, _ => .bad
    | some ti, some (.pr id row sz col), some v => match hget H id, isAggD ti.d with
      | some B, false => match B.wr, B.c with
        | true, .mx ks xs => match lget ks col, Nat.beq sz ks.length && (v.cellOk && Nat.beq 1 ti.size) with
          | some k, true => match k.of v with
            | some x => .br (Nat.ble (row + 1) xs.length) (.leaf (.tup [], hset H id (some { B with c := .mx ks (List.set xs row (setCol (List.getD xs row []) col x)) }))) .bad
            | none => .bad
          | _, _ => .bad
        | _, _ => .bad
      | _, _ => .bad
    | _, _, _ => .bad
  | .convert s d x => match alook C.ty s, alook C.ty d, ev fr x with
    | some si, some di, some v => match si.d, di.d, v with
      | .slice e, .string, .own id n => match hget H id, alook C.ty e with
        | some B, some te => match te.d, B.c with
          | .int .u8, .is .u8 xs => .br (Nat.ble n xs.length) (.leaf (.st (strOf (xs.take n)), H)) .bad
          | _, _ => .bad
        | _, _ => .bad
      | .slice e, .string, .sl id off n => match hget H id, alook C.ty e with
        | some B, some te => match te.d, B.c with
          | .int .u8, .is .u8 xs => .br (Nat.ble (off + n) xs.length) (.leaf (.st (strOf ((xs.drop off).take n)), H)) .bad
          | _, _ => .bad
        | _, _ => .bad
      | _, _, _ => (opConv di.d v).bind fun v => .leaf (v, H)
    | _, _, _ => .bad
  | .call c => match c.callee with
    | .builtin .append => match c.argTypes.toList, evs fr c.args.toList with
      | [t, u], some [x, y] => match alook C.ty t, Nat.beq t u with
        | some ti, true => appendE C H ti x y
        | _, _ => .bad
      | _, _ => .bad
    | .value f => match ev fr f, evs fr c.args.toList with
      | some (.fu f cap), some args => callE C H f (args ++ cap)
      | _, _ => .bad
    | _ => (opQ C fr H (.call c)).bind fun v => .leaf (v, H)
  | o => (opQ C fr H o).bind fun v => .leaf (v, H)

/-! ### 9. Code -/
structure St where
  fr : List (Nat × V)
  H : Hp
def dstOf : List Oper → Nat → Option Nat
  | [], _ => none
  | o :: _, 0 => o.dst
  | _ :: r, n + 1 => dstOf r n
def putD (C : Ctx) (d : Option Nat) (v : V) (fr : List (Nat × V)) : Option (List (Nat × V)) :=
  match d with
  | none => some fr
  | some t => match Nat.blt t C.n with
    | true => some ((t, v) :: fr)
    | false => none
/-- What the guard says: go on with 'yes' or 'no'; the slot's value is known behind it. -/
def guardX {α : Type} (all : List Oper) (o : Oper) (st : St) (yes no : St → T α) : T α :=
  match o.guard with
  | none => yes st
  | some (j, want) => match dstOf all j with
    | none => .bad
    | some t => match fget st.fr t with
      | some (.kb g) => match g == want with
        | true => yes st
        | false => no st
      | some (.bo g) => match want with
        | true => .br g (yes { st with fr := (t, .kb true) :: st.fr }) (no { st with fr := (t, .kb false) :: st.fr })
        | false => .br g (no { st with fr := (t, .kb true) :: st.fr }) (yes { st with fr := (t, .kb false) :: st.fr })
      | some (.tup []) => no st
      | _ => .bad
def execOps {α : Type} (C : Ctx) (all : List Oper) : List Oper → St → (St → T α) → T α
  | [], st, k => k st
  | o :: r, st, k => guardX all o st
      (fun st => (opE C st.fr st.H o.op).bind fun vH => match putD C o.dst vH.1 st.fr with
        | some fr => execOps C all r { fr := fr, H := vH.2 } k
        | none => .bad)
      (fun st => match putD C o.dst (.tup []) st.fr with
        | some fr => execOps C all r { fr := fr, H := st.H } k
        | none => .bad)
/-- The loops of a piece of code that lie in no loop of it. -/
def loopsOf : Code → List Code
  | .seq a b => loopsOf a ++ loopsOf b
  | .cond _ a b => loopsOf a ++ loopsOf b
  | .block _ c => loopsOf c
  | .scope c => loopsOf c
  | .loop c => [c]
  | _ => []
def keyO : Code → Option Nat
  | .region id _ _ => some id
  | .seq a b => match keyO a with
    | some k => some k
    | none => keyO b
  | .cond _ a b => match keyO a with
    | some k => some k
    | none => keyO b
  | .block _ c => keyO c
  | .loop c => keyO c
  | .scope c => keyO c
  | _ => none
def pickS (fr : List (Nat × V)) : List Nat → Option (List V)
  | [] => some []
  | t :: r => match fget fr t, pickS fr r with
    | some v, some vs => some (v :: vs)
    | _, _ => none
def zipS : List Nat → List V → List (Nat × V)
  | t :: r, v :: vs => (t, v) :: zipS r vs
  | _, _ => []
/-! ### 8b. Regions whose order is drawn -/
def tmpsOf : List Operand → List Nat
  | [] => []
  | .tmp t :: r => t :: tmpsOf r
  | _ :: r => tmpsOf r
/-- The slots that an operation looks at. -/
def looks (all : List Oper) (o : Oper) : List Nat :=
  match o.guard with
  | none => tmpsOf o.op.operands.toList
  | some (j, _) => match dstOf all j with
    | some t => t :: tmpsOf o.op.operands.toList
    | none => tmpsOf o.op.operands.toList
def apartS (all : List Oper) (x y : Oper) : Bool :=
  (match x.dst with
  | some d => !(memN (looks all y) d) && (match y.dst with
    | some e => !(Nat.beq d e)
    | none => true)
  | none => true) && (match y.dst with
  | some d => !(memN (looks all x) d)
  | none => true)
def insN : List Nat → List Nat → List Nat
  | acc, [] => acc
  | acc, n :: r => match memN acc n with
    | true => insN acc r
    | false => insN (n :: acc) r
/-- Which operations have come up before one that has these edges. -/
def predsOf (cl : List (List Nat)) : List Edge → List Nat
  | [] => []
  | e :: r => match Region.binds .any e with
    | true => insN (predsOf cl r) (e.on :: lgetD [] cl e.on)
    | false => predsOf cl r
def closFrom : List (List Nat) → List Oper → List (List Nat)
  | cl, [] => cl
  | cl, o :: r => closFrom (cl ++ [predsOf cl o.after.toList]) r
def backE : Nat → List Edge → Bool
  | _, [] => true
  | i, e :: r => (!(Region.binds .any e) || Nat.blt e.on i) && backE i r
def edgesBack : Nat → List Oper → Bool
  | _, [] => true
  | i, o :: r => backE i o.after.toList && edgesBack (i + 1) r
def apartWith (all : List Oper) (cl : List Nat) (o : Oper) : Nat → List Oper → Bool
  | _, [] => true
  | i, x :: r => (memN cl i || apartS all x o) && apartWith all cl o (i + 1) r
def pairsOk (all : List Oper) (cl : List (List Nat)) : List Oper → List Oper → Bool
  | _, [] => true
  | pre, o :: r => apartWith all (lgetD [] cl pre.length) o 0 pre && pairsOk all cl (pre ++ [o]) r
def drawOk (all : List Oper) : Bool := edgesBack 0 all && pairsOk all (closFrom [] all) [] all
structure Rec where
  fp : List Nat
  noisy : Bool
def overlap : List Nat → List Nat → Bool
  | [], _ => false
  | x :: r, l => memN l x || overlap r l
def clash (x y : Rec) : Bool := (x.noisy || y.noisy) && overlap x.fp y.fp
def logWith (cl : List Nat) (y : Rec) : Nat → List Rec → Bool
  | _, [] => true
  | i, x :: r => (memN cl i || !(clash x y)) && logWith cl y (i + 1) r
def logOk (cl : List (List Nat)) : List Rec → List Rec → Bool
  | _, [] => true
  | pre, y :: r => logWith (lgetD [] cl pre.length) y 0 pre && logOk cl (pre ++ [y]) r
def maskF (fr : List (Nat × V)) : List Nat → List (Nat × V)
  | [] => []
  | t :: r => match fget fr t with
    | some v => (t, v) :: maskF fr r
    | none => maskF fr r
def valsF : List (Nat × V) → List V
  | [] => []
  | p :: r => p.2 :: valsF r
def maskH (ids : List Nat) : Nat → Hp → Hp
  | _, [] => []
  | i, x :: r => (match memN ids i with
    | true => x
    | false => none) :: maskH ids (i + 1) r
def mergeH (ids : List Nat) : Nat → Hp → Hp → Hp
  | _, [], l => l
  | i, x :: r, [] => x :: r
  | i, x :: r, y :: l => (match memN ids i with
    | true => y
    | false => x) :: mergeH ids (i + 1) r l
def ltAll (n : Nat) : List Nat → Bool
  | [] => true
  | x :: r => Nat.blt x n && ltAll n r
def upto (n : Nat) : Nat → List Nat
  | 0 => []
  | k + 1 => n :: upto (n + 1) k
/-- Whether an operation reads memory; whether it may make or change memory. -/
def kindD (C : Ctx) (fr : List (Nat × V)) : Op → Bool × Bool
  | .move _ => (false, false)
  | .assign _ => (false, false)
  | .pick _ _ _ => (false, false)
  | .nilCheck _ => (false, false)
  | .binOp _ _ _ _ _ => (false, false)
  | .unOp _ _ _ => (false, false)
  | .makeFunc _ _ _ => (false, false)
  | .slice _ _ _ _ _ => (false, false)
  | .fieldAddr _ _ _ => (false, false)
  | .field _ _ _ => (false, false)
  | .indexAddr _ _ _ => (false, false)
  | .index _ _ _ => (false, false)
  | .extract _ _ => (false, false)
  | .load _ _ => (true, false)
  | .call c => match c.callee with
    | .builtin .append => (true, true)
    | .builtin _ => (false, false)
    | .value f => match ev fr f with
      | some (.fu g _) => match alook C.fn g with
        | some (.q _) => (true, false)
        | _ => (true, true)
      | _ => (true, true)
    | _ => (true, true)
  | _ => (true, true)
/-- The blocks of the program's variables, for a call that only reads. -/
def pinD (C : Ctx) (fm : List (Nat × V)) (o : Op) : List Nat := match o with
  | .call c => match c.callee with
    | .value f => match ev fm f with
      | some (.fu g _) => match alook C.fn g with
        | some (.q _) => below C.g
        | _ => []
      | _ => []
    | _ => []
  | _ => []
def footD (C : Ctx) (fm : List (Nat × V)) (H : Hp) (o : Op) : List Nat := match (kindD C fm o).1 with
  | true => reach H [] (pinD C fm o ++ V.idsL (valsF fm))
  | false => []
/-- One operation, of what it may look at alone: its value, the memory that it may look at, what it touched. -/
def stepD (C : Ctx) (fm : List (Nat × V)) (H : Hp) (o : Op) : T (V × Hp × Rec) :=
  match ltAll H.length (V.idsL (valsF fm)) && ltAll H.length (idsOf H (footD C fm H o)) with
  | false => .bad
  | true => match (kindD C fm o).2 with
    | false => (opQ C fm (maskH (footD C fm H o) 0 H) o).bind fun v => .leaf (v, maskH (footD C fm H o) 0 H, ⟨footD C fm H o, false⟩)
    | true => (opE C fm (maskH (footD C fm H o) 0 H) o).bind fun r => match Nat.ble H.length r.2.length with
      | true => .leaf (r.1, r.2, ⟨footD C fm H o ++ upto H.length (r.2.length - H.length), true⟩)
      | false => .bad
def nextH (H : Hp) (ids : List Nat) (noisy : Bool) (H' : Hp) : Hp := match noisy with
  | false => H
  | true => mergeH ids 0 H H'
def execD {α : Type} (C : Ctx) (all : List Oper) : List Oper → St → List Rec → (St → List Rec → T α) → T α
  | [], st, log, k => k st log
  | o :: r, st, log, k => guardX all o st
      (fun st => (stepD C (maskF st.fr (looks all o)) st.H o.op).bind fun x => match putD C o.dst x.1 st.fr with
        | some fr => execD C all r { fr := fr, H := nextH st.H (footD C (maskF st.fr (looks all o)) st.H o.op) x.2.2.noisy x.2.1 } (log ++ [x.2.2]) k
        | none => .bad)
      (fun st => match putD C o.dst (.tup []) st.fr with
        | some fr => execD C all r { fr := fr, H := st.H } (log ++ [⟨[], false⟩]) k
        | none => .bad)
/-- What is known of the slots, of those of which nothing is known that. -/
def pickO (fr : List (Nat × V)) : List Nat → List V
  | [] => []
  | t :: r => (match fget fr t with
    | some v => v
    | none => .unk) :: pickO fr r
def zipO : List Nat → List V → List (Nat × V)
  | t :: r, v :: vs => match v with
    | .unk => zipO r vs
    | v => (t, v) :: zipO r vs
  | _, _ => []
def exec {α : Type} (C : Ctx) : Code → St → (X → St → T α) → T α
  | .skip, st, k => k .nrm st
  | .label _, st, k => k .nrm st
  | .region _ ops draw, st, k => match draw with
    | false => execOps C ops.toList ops.toList st (k .nrm)
    | true => match drawOk ops.toList with
      | true => execD C ops.toList ops.toList st [] fun st log => match logOk (closFrom [] ops.toList) [] log with
        | true => k .nrm st
        | false => .bad
      | false => .bad
  | .seq a b, st, k => exec C a st (fun x st => match x with
    | .nrm => exec C b st k
    | x => k x st)
  | .cond c a b, st, k => match ev st.fr c with
    | some (.kb true) => exec C a st k
    | some (.kb false) => exec C b st k
    | some (.bo g) => match c with
      | .tmp t => .br g (exec C a { st with fr := (t, .kb true) :: st.fr } k) (exec C b { st with fr := (t, .kb false) :: st.fr } k)
      | _ => .br g (exec C a st k) (exec C b st k)
    | _ => .bad
  | .block id c, st, k => exec C c st (fun x st => match x with
    | .ex j => match Nat.beq j id with
      | true => k .nrm st
      | false => k (.ex j) st
    | x => k x st)
  | .loop c, st, k => match keyO c with
    | some key => match alook C.lp key with
      | some L => match pickS st.fr L.keep with
        | some vs => (L.L (gc C.k vs st.H).1 (gc C.k vs st.H).2).bind fun r => k r.1 { fr := zipO L.out r.2.1, H := r.2.2 }
        | none => .bad
      | none => .bad
    | none => .bad
  | .scope c, st, k => exec C c st k
  | .exit id, st, k => k (.ex id) st
  | .ret, st, k => k .ret st
  | _, _, _ => .bad
/-- The result of a function, at the end. -/
def retV (C : Ctx) (st : St) : List ResultVar → T (List V)
  | [] => .leaf []
  | .tmp t :: r => match fget st.fr t with
    | some v => (retV C st r).bind fun vs => .leaf (v :: vs)
    | none => .bad
  | .cell a t :: r => match alook C.ty t, fget st.fr a with
    | some ti, some (.pt id off) => (loadQ C st.H ti id off).bind fun v => (retV C st r).bind fun vs => .leaf (v :: vs)
    | _, _ => .bad
def oneV : List V → V
  | [v] => v
  | vs => .tup vs
mutual
def V.known : V → Bool
  | .unk => false
  | .qn => false
  | .er => false
  | .agg xs => V.knownL xs
  | .tup xs => V.knownL xs
  | _ => true
def V.knownL : List V → Bool
  | [] => true
  | x :: r => V.known x && V.knownL r
end
def retK (C : Ctx) (rs : List ResultVar) (x : X) (st : St) : T (V × Hp) :=
  match x with
  | .nrm => (retV C st rs).bind fun vs => match V.knownL (gc C.k vs st.H).1 with
    | true => .leaf (oneV (gc C.k vs st.H).1, (gc C.k vs st.H).2)
    | false => .bad
  | .ret => (retV C st rs).bind fun vs => match V.knownL (gc C.k vs st.H).1 with
    | true => .leaf (oneV (gc C.k vs st.H).1, (gc C.k vs st.H).2)
    | false => .bad
  | .ex _ => .bad
def initFr : Nat → List V → List (Nat × V)
  | _, [] => []
  | n, v :: r => (n, v) :: initFr (n + 1) r
/-- What a function does. -/
def runF (C : Ctx) (rs : List ResultVar) (body : Code) (args : List V) (H : Hp) : T (V × Hp) :=
  exec C body { fr := initFr 0 args, H := H } (retK C rs)
/-- One round of a loop: once more, or out. -/
def roundL (C : Ctx) (keep out : List Nat) (body : Code) (vs : List V) (H : Hp) : T ((List V × Hp) ⊕ (X × List V × Hp)) :=
  exec C body { fr := zipS keep vs, H := H } fun x st => match x with
    | .nrm => match pickS st.fr keep with
      | some vs => .leaf (.inl (gc C.k vs st.H))
      | none => .bad
    | x => .leaf (.inr (x, gc C.k (pickO st.fr out) st.H))
def iterL (step : List V → Hp → T ((List V × Hp) ⊕ (X × List V × Hp))) : Nat → List V → Hp → T (X × List V × Hp)
  | 0, _, _ => .bad
  | n + 1, vs, H => (step vs H).bind fun
    | .inl r => iterL step n r.1 r.2
    | .inr r => .leaf r
end Go.Proofs.Ytkfpmiggolmabaa.Sx
