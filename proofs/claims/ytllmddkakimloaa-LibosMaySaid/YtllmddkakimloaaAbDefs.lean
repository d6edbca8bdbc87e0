import Derived.RangeFuncLeaves
import Derived.RangeFuncRecord
import Derived.OrdersIn
import Derived.Below
import Derived.KernelRfl
/-! Pure data, abstract values and states; what a function's code comes to, as a proposition on abstract states. -/
namespace Go.Ab
set_option linter.all false
open Go
abbrev Name := List Nat

/-- Data without memory: a scalar, a struct or array (its cells), a slice (its elements). -/
inductive D where
  | v (x : Value)
  | agg (cs : List D)
  | sl (xs : List D)
  deriving Inhabited

def D.cells : D → List D
  | .agg cs => cs
  | x => [x]
abbrev D.i (n : Int) : D := .v (.int .i64 n)
abbrev D.u (n : Int) : D := .v (.int .u64 n)
abbrev D.b (b : Bool) : D := .v (.bool b)

/-- What a slot holds: data; nil; a slice that is appended to; a pointer to a variable; a place among data; a closure; yield; a struct or a tuple of these; anything. -/
inductive V where
  | d (x : D)
  | nil
  | own (id : Name) (sz : Nat) (xs : List D)
  | ptr (n : Name) (off : Nat)
  | ref (cs : List D)
  | fn (f : FuncId) (cap : List V)
  | yld (l : Name)
  | agg (cs : List V)
  | tup (vs : List V)
  | dead
  deriving Inhabited

def V.cells : V → List V
  | .agg cs => cs
  | .d (.agg cs) => cs.map .d
  | x => [x]

/-- What can lie in cells. -/
def isCells : V → Bool
  | .dead => false
  | .tup _ => false
  | _ => true
def toDs (f : V → Option D) : List V → Option (List D)
  | [] => some []
  | v :: vs => match f v, toDs f vs with | some x, some xs => some (x :: xs) | _, _ => none

def V.toD1 : V → Option D
  | .d x => some x
  | .nil => some (.sl [])
  | .own _ _ xs => some (.sl xs)
  | _ => none
def V.toD : V → Option D
  | .agg cs => (toDs V.toD1 cs).map .agg
  | x => x.toD1

structure Fr where
  rd : Option Name
  n : Nat
  ts : List (Nat × V)

structure Lp where
  depth : Nat
  ps : Array Tmp
  assign : Code
  body : Code
  pending : Option (Option Code)

structure St where
  fr : List Fr
  bx : List (Name × V)
  lp : List (Name × Lp)
  ow : List Name

def lkT (t : Nat) : List (Nat × V) → V
  | [] => .dead
  | (s, v) :: l => if s = t then v else lkT t l
def lookN {α : Type} (n : Name) : List (Name × α) → Option α
  | [] => none
  | (s, v) :: l => if s = n then some v else lookN n l
def setN {α : Type} (n : Name) (x : α) : List (Name × α) → List (Name × α)
  | [] => []
  | (s, v) :: l => if s = n then (s, x) :: l else (s, v) :: setN n x l
def setT (t : Nat) (x : V) : List (Nat × V) → List (Nat × V)
  | [] => [(t, x)]
  | (s, v) :: l => if s = t then (s, x) :: l else (s, v) :: setT t x l

/-- A number fits its kind. -/
def inR (k : IntKind) (n : Int) : Bool :=
  match k with
  | .i8 => decide (-128 ≤ n ∧ n ≤ 127)
  | .i16 => decide (-32768 ≤ n ∧ n ≤ 32767)
  | .i32 => decide (-2147483648 ≤ n ∧ n ≤ 2147483647)
  | .i64 => decide (-9223372036854775808 ≤ n ∧ n ≤ 9223372036854775807)
  | .u8 => decide (0 ≤ n ∧ n ≤ 255)
  | .u16 => decide (0 ≤ n ∧ n ≤ 65535)
  | .u32 => decide (0 ≤ n ∧ n ≤ 4294967295)
  | .u64 => decide (0 ≤ n ∧ n ≤ 18446744073709551615)
/-- A constant. -/
def scalar : Value → Bool
  | .bool _ | .nilFunc => true
  | .nilIface => true
  | .pointer a => a.isNone
  | .map r => r.isNone
  | .int k n => inR k n
  | .string s => decide (s.size ≤ 9223372036854775807)
  | .func (.func _) a b => a.isEmpty && b.isEmpty
  | _ => false
def constD : Value → D
  | .slice none 0 0 => .sl []
  | v => .v v
def constV : Value → V
  | .slice none 0 0 => .nil
  | .agg cs => if cs.all (fun c => scalar c || (match c with | .slice none 0 0 => true | _ => false)) then .d (.agg (cs.toList.map constD)) else .dead
  | v => if scalar v then .d (.v v) else .dead

def Fr.get (f : Fr) : Operand → V
  | .tmp t => lkT t f.ts
  | .const v => constV v
  | .global _ => .dead
  | .func g => .d (.v (.func (.func g) #[] #[]))

def tsz (P : Program) (t : TypeId) : Nat := ((P.info? t).map (·.size)).getD 0
def tbytes (P : Program) (t : TypeId) : Nat := ((P.info? t).map (·.bytes)).getD 0
def tagg (P : Program) (t : TypeId) : Option Bool := match P.underlying t with | some (.struct _) | some (.array _ _) => some true | some _ => some false | none => none
def tfield (P : Program) (t : TypeId) (i : Nat) : Option (Nat × TypeId) := match P.underlying t with | some (.struct fs) => (fs[i]?).map fun f => (f.offset, f.type) | _ => none
def telem (P : Program) (t : TypeId) : Option TypeId := match P.underlying t with | some (.slice e) => some e | _ => none
def tarr (P : Program) (t : TypeId) : Option (Nat × TypeId) := match P.underlying t with | some (.array n e) => some (n, e) | _ => none
def tzero (P : Program) (t : TypeId) : V := match (P.info? t).bind (·.zero) with | some v => constV v | none => .dead

/-- A test on a truth value that may be known only later. -/
def CaseB (b : Bool) (p q : Prop) : Prop := (b = true → p) ∧ (b = false → q)
@[simp] theorem caseB_true (p q : Prop) : CaseB true p q = p := by simp [CaseB]
@[simp] theorem caseB_false (p q : Prop) : CaseB false p q = q := by simp [CaseB]

def cmpInt (op : BinOp) (a b : Int) : Option Bool :=
  match op with
  | .eql => some (a == b)
  | .neq => some (a != b)
  | .lss => some (decide (a < b))
  | .leq => some (decide (a ≤ b))
  | .gtr => some (decide (a > b))
  | .geq => some (decide (a ≥ b))
  | _ => none
def andI (k : IntKind) (a b : Int) : Int := k.wrap (BitVec.ofInt k.bits a &&& BitVec.ofInt k.bits b).toNat
def orI (k : IntKind) (a b : Int) : Int := k.wrap (BitVec.ofInt k.bits a ||| BitVec.ofInt k.bits b).toNat
def xorI (k : IntKind) (a b : Int) : Int := k.wrap (BitVec.ofInt k.bits a ^^^ BitVec.ofInt k.bits b).toNat
def andNotI (k : IntKind) (a b : Int) : Int := k.wrap (BitVec.ofInt k.bits a &&& ~~~ BitVec.ofInt k.bits b).toNat
def arith (op : BinOp) (k : IntKind) (a b : Int) : Option Int :=
  match op with
  | .add => some (k.wrap (a + b))
  | .sub => some (k.wrap (a - b))
  | .mul => some (k.wrap (a * b))
  | .and => some (andI k a b)
  | .or => some (orI k a b)
  | .xor => some (xorI k a b)
  | .andNot => some (andNotI k a b)
  | _ => none

def binV (P : Program) (t : TypeId) (op : BinOp) (x y : Value) (k : V → Prop) : Prop :=
  match x, y with
  | .int p a, .int q b =>
    match op with
    | .shl => 0 ≤ b ∧ k (.d (.v (.int p (p.wrap (a * 2 ^ (min b.toNat p.bits))))))
    | .shr => 0 ≤ b ∧ k (.d (.v (.int p (a.fdiv (2 ^ (min b.toNat p.bits))))))
    | .quo => p = q ∧ b ≠ 0 ∧ k (.d (.v (.int p (p.wrap (a.tdiv b)))))
    | .rem => p = q ∧ b ≠ 0 ∧ k (.d (.v (.int p (a.tmod b))))
    | _ => p = q ∧ match cmpInt op a b with
      | some r => k (.d (.v (.bool r)))
      | none => match arith op p a b with
        | some r => k (.d (.v (.int p r)))
        | none => False
  | .bool a, .bool b =>
    P.underlying t = some .bool ∧ match op with
    | .eql => k (.d (.v (.bool (a == b))))
    | .neq => k (.d (.v (.bool (!(a == b)))))
    | _ => False
  | .string a, .string b =>
    match op with
    | .eql => k (.d (.v (.bool (a.toList == b.toList))))
    | .neq => k (.d (.v (.bool !(a.toList == b.toList))))
    | _ => False
  | _, _ => False

def unV (op : UnOp) (x : Value) (k : V → Prop) : Prop :=
  match op, x with
  | .not, .bool b => k (.d (.v (.bool !b)))
  | .neg, .int p n => k (.d (.v (.int p (p.wrap (0 - n)))))
  | _, _ => False

/-- Where a struct's or an array's parts lie. -/
def tplace (P : Program) (t : TypeId) (i : Nat) : Option (Nat × Nat) :=
  match P.underlying t with
  | some (.struct fs) => (fs[i]?).map fun f => (f.offset, tsz P f.type)
  | some (.array _ e) => some (i * tsz P e, tsz P e)
  | _ => none
def tbuild (P : Program) (t : TypeId) : Bool :=
  match P.underlying t with
  | some (.struct fs) => fs.toList.all fun f => (P.info? f.type).isSome
  | some (.array _ e) => (P.info? e).isSome
  | _ => false
/-- Parts of a struct or an array laid over its zero value. -/
def fillV (place : Nat → Option (Nat × Nat)) (cells : List V) : List (Nat × V) → Option (List V)
  | [] => some cells
  | (i, v) :: rest => match place i with
    | none => none
    | some (off, sz) => if isCells v = true ∧ v.cells.length = sz ∧ off + sz ≤ cells.length then fillV place (cells.take off ++ v.cells ++ cells.drop (off + sz)) rest else none

/-- The kinds of the cells of a struct or an array that can be compared (true: truth values). -/
def kindB (P : Program) (t : TypeId) : Option Bool := match P.underlying t with | some .bool => some true | some (.int _) => some false | _ => none
def kindsFs (P : Program) : Nat → List Field → Option (List Bool)
  | _, [] => some []
  | i, f :: fs => if f.name ≠ "_" ∧ f.offset = i then match kindB P f.type, kindsFs P (i + 1) fs with | some b, some bs => some (b :: bs) | _, _ => none else none
def flatKinds (P : Program) (t : TypeId) : Option (List Bool) :=
  if P.eqGuardType P.depth t then none else match P.underlying t with
  | some (.struct fs) => if P.stoodInHeld t then none else kindsFs P 0 fs.toList
  | some (.array n e) => if tsz P e = 1 then (kindB P e).map (List.replicate n ·) else none
  | _ => none
def eqDs : List Bool → List D → List D → Option Bool
  | [], _, _ => some true
  | true :: ks, .v (.bool a) :: xs, .v (.bool b) :: ys => match eqDs ks xs ys with | some r => some (a == b && r) | none => none
  | false :: ks, .v (.int p a) :: xs, .v (.int q b) :: ys => if p = q then match eqDs ks xs ys with | some r => some (a == b && r) | none => none else none
  | _, _, _ => none

/-- What is data as it stands. -/
def V.asD : V → Option D
  | .d x => some x
  | .nil => some (.sl [])
  | _ => none
/-- Cells that are all data are data. -/
def mkAgg (cs : List V) : V := match toDs V.toD1 cs with | some ds => .d (.agg ds) | none => .agg cs
/-- The same for a variable's cells: a slice of its own stays one. -/
def mkAggB (cs : List V) : V := match toDs V.asD cs with | some ds => .d (.agg ds) | none => .agg cs

def takeD (agg : Bool) (sz : Nat) (cs : List D) : V :=
  if agg then (if cs.length = sz then .d (.agg cs) else .d (.agg (cs.take sz))) else match cs with | c :: _ => .d c | [] => .dead

/-- A load out of a variable: the whole of it, or a part. -/
def loadBox (agg : Bool) (off sz : Nat) (c : V) : V :=
  match agg, c with
  | true, .d (.agg ds) => if off = 0 ∧ ds.length = sz then .d (.agg ds) else .d (.agg ((ds.drop off).take sz))
  | false, .d (.agg ds) => ((ds[off]?).map V.d).getD .dead
  | true, c => mkAgg ((c.cells.drop off).take sz)
  | false, c => (c.cells[off]?).getD .dead

def storeBox (off : Nat) (x c : V) : V :=
  if off = 0 ∧ x.cells.length = c.cells.length then x
  else match x, c with
    | .d d, .d (.agg ds) => .d (.agg (ds.take off ++ d.cells ++ ds.drop (off + d.cells.length)))
    | _, _ => mkAggB (c.cells.take off ++ x.cells ++ c.cells.drop (off + x.cells.length))
end Go.Ab
