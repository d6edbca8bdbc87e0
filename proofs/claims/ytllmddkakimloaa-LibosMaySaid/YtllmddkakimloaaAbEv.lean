import Derived.Test.YtllmddkakimloaaAbDefs
/-! What code comes to, on abstract states. -/
namespace Go.Ab
set_option linter.all false
open Go

mutual
def V.refs (n : Name) : V → Bool
  | .ptr m _ => m == n
  | .fn _ c => V.refsL n c
  | .agg c => V.refsL n c
  | .tup c => V.refsL n c
  | _ => false
def V.refsL (n : Name) : List V → Bool
  | [] => false
  | v :: vs => v.refs n || V.refsL n vs
end
mutual
def V.strip (i : Name) : V → V
  | .own j sz xs => if j = i then .d (.sl xs) else .own j sz xs
  | .fn f c => .fn f (V.stripL i c)
  | .agg c => .agg (V.stripL i c)
  | .tup c => .tup (V.stripL i c)
  | .d x => .d x
  | .nil => .nil
  | .ptr n o => .ptr n o
  | .ref c => .ref c
  | .yld l => .yld l
  | .dead => .dead
def V.stripL (i : Name) : List V → List V
  | [] => []
  | v :: vs => v.strip i :: V.stripL i vs
end

structure Sa where
  rd : Option Name
  n : Nat
  ts : List (Nat × V)
  sv : List Fr
  bx : List (Name × V)
  lp : List (Name × Lp)
  ow : List Name

def Sa.get (s : Sa) : Operand → V
  | .tmp t => lkT t s.ts
  | .const v => constV v
  | .global _ => .dead
  | .func g => .d (.v (.func (.func g) #[] #[]))
def Sa.put (s : Sa) : Option Tmp → V → Sa
  | none, _ => s
  | some d, v => { s with ts := setT d v s.ts }
def mapT (f : V → V) (l : List (Nat × V)) : List (Nat × V) := l.map fun x => (x.1, f x.2)
def Sa.strip (s : Sa) (i : Name) : Sa :=
  { s with ts := mapT (V.strip i) s.ts, sv := s.sv.map (fun f => { f with ts := mapT (V.strip i) f.ts }), bx := s.bx.map (fun x => (x.1, x.2.strip i)), ow := s.ow.filter (fun j => j != i) }
def Sa.refs (s : Sa) (n : Name) : Bool :=
  s.ts.any (fun x => x.2.refs n) || s.sv.any (fun f => f.ts.any (fun x => x.2.refs n)) || s.bx.any (fun x => x.2.refs n)

/-- nil, where it is laid into a variable, is the begin of a slice of its own. -/
def Sa.claim (s : Sa) (i : Name) (sz : Option Nat) (v : V) : V × Sa :=
  match v, sz with
  | .nil, some z => (.own i z [], { s.strip i with ow := i :: (s.strip i).ow })
  | v, _ => (v, s)
def esz (P : Program) (t : TypeId) : Option Nat := (telem P t).map (tsz P)

inductive Ex where
  | norm | exit (id : Nat) | ret

/-- A call's meaning: an atom here, told in the next text. -/
structure Sems where
  call : Name → FuncId → List V → Sa → (V → Sa → Prop) → Prop
  yld : Name → Name → List V → Sa → (V → Sa → Prop) → Prop
  code : Name → Code → Sa → (Ex → Sa → Prop) → Prop

def intOfV : V → Option Int
  | .d (.v (.int _ n)) => some n
  | _ => none
def sliceOf : V → Option (List D)
  | .d (.sl xs) => some xs
  | .own _ _ xs => some xs
  | .nil => some []
  | _ => none

/-- A struct or an array. -/
def V.isStr : V → Bool
  | .d (.agg _) => true
  | .agg _ => true
  | _ => false
/-- A function that can be entered. -/
def callable (P : Program) (g : FuncId) : Bool := match P.funcs[g]? with | some fn => fn.body.isSome && fn.name != "runtime.NumGoroutine" | none => false

def evOp (P : Program) (S : Sems) (p : Name) (o : Oper) (s : Sa) (k : Sa → Prop) : Prop :=
  let dst := o.dst
  let d := dst.getD 0
  match o.op with
  | .move x => k (s.put dst (s.get x))
  | .assign x => k ((s.claim (d :: p) (esz P o.type) (s.get x)).2.put dst (s.claim (d :: p) (esz P o.type) (s.get x)).1)
  | .pick c a b => match s.get c with
    | .d (.v (.bool t)) => CaseB t (k (s.put dst (s.get a))) (k (s.put dst (s.get b)))
    | _ => False
  | .alloc t =>
    let r := s.claim (1000000 :: d :: p) (esz P t) (tzero P t)
    (tzero P t).cells.length = tsz P t ∧ isCells (tzero P t) = true ∧ s.refs (d :: p) = false ∧ lookN (d :: p) s.bx = none ∧ k ({ r.2 with bx := (d :: p, r.1) :: r.2.bx }.put dst (.ptr (d :: p) 0))
  | .box t x =>
    let r := s.claim (1000000 :: d :: p) (esz P t) (s.get x)
    isCells (s.get x) = true ∧ s.refs (d :: p) = false ∧ lookN (d :: p) s.bx = none ∧ k ({ r.2 with bx := (d :: p, r.1) :: r.2.bx }.put dst (.ptr (d :: p) 0))
  | .build t parts =>
    tbuild P t = true ∧ isCells (tzero P t) = true ∧ match fillV (tplace P t) (tzero P t).cells (parts.toList.map fun x => (x.1, s.get x.2)) with
    | some cs => k (s.put dst (mkAgg cs))
    | none => False
  | .buildSlice t len parts =>
    match telem P t with
    | some e => tsz P e ≠ 0 ∧ isCells (tzero P e) = true ∧ len * tsz P e ≤ 16777216 ∧ parts.toList.map (·.1) = List.range len ∧
      match toDs V.toD (parts.toList.map fun x => s.get x.2) with
      | some xs => (∀ x ∈ xs, x.cells.length = tsz P e) ∧ if len = 0 then k ((s.claim (d :: p) (some (tsz P e)) .nil).2.put dst (s.claim (d :: p) (some (tsz P e)) .nil).1) else k (s.put dst (.d (.sl xs)))
      | none => False
    | none => False
  | .load t a => match tagg P t with
    | some ag => (ag = false → tsz P t ≠ 0) ∧ match s.get a with
      | .ptr n off => match lookN n s.bx with
        | some c => off + tsz P t ≤ c.cells.length ∧ k (s.put dst (loadBox ag off (tsz P t) c))
        | none => False
      | .ref cs => tsz P t ≤ cs.length ∧ k (s.put dst (takeD ag (tsz P t) cs))
      | _ => False
    | none => False
  | .store t a x => match s.get a with
    | .ptr n off => match lookN n s.bx with
      | some _ =>
        let r := s.claim ((1000000 + off) :: n) (esz P t) (s.get x)
        match lookN n r.2.bx with
        | some c => isCells (s.get x) = true ∧ tsz P t ≠ 0 ∧ r.1.cells.length = tsz P t ∧ off + tsz P t ≤ c.cells.length ∧ k ({ r.2 with bx := setN n (storeBox off r.1 c) r.2.bx }.put dst .dead)
        | none => False
      | none => False
    | _ => False
  | .nilCheck x => match s.get x with
    | .ptr n off => k (s.put dst (.ptr n off))
    | .ref cs => k (s.put dst (.ref cs))
    | _ => False
  | .binOp op t x y _ => match s.get y with
    | .d (.v b) => match s.get x with
      | .d (.v a) => binV P t op a b fun v => k (s.put dst v)
      | _ => False
    | .d (.agg ys) => match s.get x with
      | .d (.agg xs) => match flatKinds P t with
        | some ks => match eqDs ks xs ys with
          | some r => match op with
            | .eql => k (s.put dst (.d (.v (.bool r))))
            | .neq => k (s.put dst (.d (.v (.bool !r))))
            | _ => False
          | none => False
        | none => False
      | _ => False
    | .nil => match telem P t with
      | some _ => match s.get x with
        | .nil => match op with
          | .eql => k (s.put dst (.d (.v (.bool true))))
          | .neq => k (s.put dst (.d (.v (.bool false))))
          | _ => False
        | .d (.sl xs) => match op with
          | .eql => (xs = [] → k (s.put dst (.d (.v (.bool true))))) ∧ k (s.put dst (.d (.v (.bool false))))
          | .neq => (xs = [] → k (s.put dst (.d (.v (.bool false))))) ∧ k (s.put dst (.d (.v (.bool true))))
          | _ => False
        | .own _ _ xs => match op with
          | .eql => (xs = [] → k (s.put dst (.d (.v (.bool true))))) ∧ k (s.put dst (.d (.v (.bool false))))
          | .neq => (xs = [] → k (s.put dst (.d (.v (.bool false))))) ∧ k (s.put dst (.d (.v (.bool true))))
          | _ => False
        | _ => False
      | none => False
    | _ => False
  | .unOp op _ x => match s.get x with
    | .d (.v a) => unV op a fun v => k (s.put dst v)
    | _ => False
  | .convert src t x => match P.underlying t, s.get x with
    | some (.int kd), .d (.v (.int _ n)) => (P.underlying src).isSome = true ∧ k (s.put dst (.d (.v (.int kd (kd.wrap n)))))
    | _, _ => False
  | .makeFunc (.func f) first cap => first = #[] ∧ k (s.put dst (.fn f (cap.toList.map s.get)))
  | .fieldAddr t x i => match tfield P t i with
    | some (off, ft) => tsz P ft ≠ 0 ∧ match s.get x with
      | .ptr n o => k (s.put dst (.ptr n (o + off)))
      | .ref cs => k (s.put dst (.ref (cs.drop off)))
      | _ => False
    | none => False
  | .field t x i => match tfield P t i with
    | some (off, ft) => match tagg P ft with
      | some ag => (ag = false → tsz P ft ≠ 0) ∧ off + tsz P ft ≤ (s.get x).cells.length ∧ (s.get x).isStr = true ∧ k (s.put dst (loadBox ag off (tsz P ft) (s.get x)))
      | none => False
    | none => False
  | .indexAddr t x ix => match intOfV (s.get ix) with
    | some i => match telem P t with
      | some e => match sliceOf (s.get x) with
        | some xs => tsz P e ≠ 0 ∧ 0 ≤ i ∧ i < xs.length ∧ ∀ x, xs[i.toNat]? = some x → x.cells.length = tsz P e ∧ k (s.put dst (.ref x.cells))
        | none => False
      | none => match tarr P t with
        | some (n, e) => tsz P e ≠ 0 ∧ 0 ≤ i ∧ i < n ∧ 2 ≤ n ∧ match s.get x with
          | .ptr b o => k (s.put dst (.ptr b (o + i.toNat * tsz P e)))
          | .ref cs => k (s.put dst (.ref (cs.drop (i.toNat * tsz P e))))
          | _ => False
        | none => False
    | none => False
  | .slice t x lo hi none => match telem P t, sliceOf (s.get x), (match lo with | some l => intOfV (s.get l) | none => some 0) with
    | some e, some xs, some l => match (match hi with | some h => intOfV (s.get h) | none => some (xs.length : Int)) with
      | some h => tsz P e ≠ 0 ∧ 0 ≤ l ∧ l ≤ h ∧ h ≤ xs.length ∧ (0 < l → ∀ x ∈ xs, x.cells.length = tsz P e) ∧ k (s.put dst (.d (.sl ((xs.take h.toNat).drop l.toNat))))
      | none => False
    | _, _, _ => False
  | .extract x i => match s.get x with
    | .tup vs => match vs[i]? with
      | some v => k (s.put dst v)
      | none => False
    | _ => False
  | .call c => match c.callee with
    | .builtin .len => match (c.args.toList.map s.get), c.argTypes.toList with
      | [x], t :: _ => match telem P t, sliceOf x with
        | some _, some xs => k (s.put dst (.d (.v (.int .i64 xs.length))))
        | _, _ => match P.underlying t, x with
          | some .string, .d (.v (.string b)) => k (s.put dst (.d (.v (.int .i64 b.size))))
          | some (.array nn _), _ => nn ≤ 9223372036854775807 ∧ k (s.put dst (.d (.v (.int .i64 nn))))
          | _, _ => False
      | _, _ => False
    | .builtin .append => match (c.args.toList.map s.get), c.argTypes.toList with
      | [x, y], t :: u :: _ => match telem P t, sliceOf y with
        | some e, some ys => telem P u = some e ∧ tsz P e ≠ 0 ∧ isCells (tzero P e) = true ∧ (tzero P e).cells.length = tsz P e ∧ (∀ y ∈ ys, y.cells.length = tsz P e) ∧ match x with
          | .own i sz xs => i ∈ s.ow ∧ sz = tsz P e ∧ (xs.length + ys.length) * tbytes P e ≤ 140737488355328 ∧ xs.length + ys.length ≤ 9223372036854775807 ∧
              k ({ s.strip i with ow := i :: (s.strip i).ow }.put dst (.own i sz (xs ++ ys)))
          | .nil => ys.length * tbytes P e ≤ 140737488355328 ∧ ys.length ≤ 9223372036854775807 ∧
              k ({ s.strip (d :: p) with ow := (d :: p) :: (s.strip (d :: p)).ow }.put dst (.own (d :: p) (tsz P e) ys))
          | _ => False
        | _, _ => False
      | _, _ => False
    | .builtin .max => match (c.args.toList.map s.get) with
      | [.d (.v (.int q a)), .d (.v (.int q2 b))] => q = q2 ∧ k (s.put dst (.d (.v (.int q (if b > a then b else a)))))
      | _ => False
    | .builtin .min => match (c.args.toList.map s.get) with
      | [.d (.v (.int q a)), .d (.v (.int q2 b))] => q = q2 ∧ k (s.put dst (.d (.v (.int q (if b < a then b else a)))))
      | _ => False
    | .value f => match s.get f with
      | .d (.v (.func (.func g) _ _)) => callable P g = true ∧ S.call (d :: p) g (c.args.toList.map s.get) s fun v s' => (∀ d, dst = some d → d < s'.n) ∧ k (s'.put dst v)
      | .fn g cap => callable P g = true ∧ S.call (d :: p) g (c.args.toList.map s.get ++ cap) s fun v s' => (∀ d, dst = some d → d < s'.n) ∧ k (s'.put dst v)
      | .yld l => S.yld (d :: p) l (c.args.toList.map s.get) s fun v s' => (∀ d, dst = some d → d < s'.n) ∧ k (s'.put dst v)
      | _ => False
    | _ => False
  | _ => False

/-- The operations of a region, in order; one that is guarded by a test's outcome. -/
def evOps (P : Program) (S : Sems) (p : Name) (ops : Array Oper) : List Oper → Sa → (Sa → Prop) → Prop
  | [], s, k => k s
  | o :: rest, s, k =>
    (match o.dst with | some d => d < s.n | none => True) ∧
    match o.guard with
    | none => evOp P S p o s (fun s' => evOps P S p ops rest s' k)
    | some (j, want) => match (ops[j]?).bind (·.dst) with
      | some t => match lkT t s.ts with
        | .d (.v (.bool b)) => CaseB b
            (let s1 := s.put (some t) (.d (.v (.bool true))); if want then evOp P S p o s1 (fun s' => evOps P S p ops rest s' k) else evOps P S p ops rest (s1.put o.dst (.tup [])) k)
            (let s1 := s.put (some t) (.d (.v (.bool false))); if want then evOps P S p ops rest (s1.put o.dst (.tup [])) k else evOp P S p o s1 (fun s' => evOps P S p ops rest s' k))
        | .tup [] => evOps P S p ops rest (s.put o.dst (.tup [])) k
        | _ => False
      | none => False

def ev (P : Program) (S : Sems) (p : Name) : Code → Sa → (Ex → Sa → Prop) → Prop
  | .skip, s, Q => Q .norm s
  | .region _ ops false, s, Q => evOps P S p ops ops.toList s (Q .norm)
  | .region id ops true, s, Q => S.code p (.region id ops true) s Q
  | .seq a b, s, Q => ev P S p a s fun e s' => match e with | .norm => ev P S p b s' Q | e => Q e s'
  | .cond c x y, s, Q => match s.get c with
    | .d (.v (.bool b)) => CaseB b (ev P S p x s Q) (ev P S p y s Q)
    | _ => False
  | .block id b, s, Q => ev P S p b s fun e s' => match e with | .exit i => if i = id then Q .norm s' else Q (.exit i) s' | e => Q e s'
  | .loop b, s, Q => S.code p (.loop b) s Q
  | .exit id, s, Q => Q (.exit id) s
  | .ret, s, Q => Q .ret s
  | .rangeFunc f ps a b, s, Q => S.code p (.rangeFunc f ps a b) s Q
  | _, _, _ => False
end Go.Ab
