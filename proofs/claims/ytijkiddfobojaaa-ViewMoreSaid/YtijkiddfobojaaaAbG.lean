import Derived.Test.YtijkiddfobojaaaAbTypes
import Derived.Test.YtijkiddfobojaaaAbD
import Derived.Test.YtijkiddfobojaaaAbL
/-! What the evaluation opens: each step that is still to come bears a name, so that it is not looked at before its time. Written by program (simps.py). -/
namespace Go.Ab
set_option linter.all false
open Go
def putK (dst : Option Tmp) (s : Sa) (k : Sa → Prop) : V → Prop := fun v => k (s.put dst v)
@[go_sem] theorem putK_ap {dst : Option Tmp} {s : Sa} {k : Sa → Prop} {v : V} : putK dst s k v = k (s.put dst v) := rfl
def callK (dst : Option Tmp) (k : Sa → Prop) : V → Sa → Prop := fun v s' => (∀ d, dst = some d → d < s'.n) ∧ k (s'.put dst v)
@[go_sem] theorem callK_ap {dst : Option Tmp} {s : Sa} {k : Sa → Prop} {v : V} : callK dst k v s = ((∀ d, dst = some d → d < s.n) ∧ k (s.put dst v)) := rfl
def evOpsK (P : Program) (S : Sems) (p : Name) (ops : Array Oper) (rest : List Oper) (k : Sa → Prop) : Sa → Prop := fun s => evOps P S p ops rest s k
@[go_sem] theorem evOpsK_ap {P : Program} {S : Sems} {p : Name} {ops : Array Oper} {rest : List Oper} {k : Sa → Prop} {s : Sa} : evOpsK P S p ops rest k s = evOps P S p ops rest s k := rfl
@[go_sem] theorem evOps_nil {P : Program} {S : Sems} {p : Name} {ops : Array Oper} {k : Sa → Prop} {s : Sa} : evOps P S p ops [] s k = k s := rfl
@[go_sem] theorem evOps_some {P : Program} {S : Sems} {p : Name} {ops : Array Oper} {rest : List Oper} {k : Sa → Prop} {s : Sa} {d : Tmp} {op : Op} {ty : TypeId} {ps : String} {af : Array Edge} :
    evOps P S p ops (⟨some d, op, ty, ps, af, none⟩ :: rest) s k = (d < s.n ∧ evOp P S p ⟨some d, op, ty, ps, af, none⟩ s (evOpsK P S p ops rest k)) := rfl
@[go_sem] theorem evOps_none {P : Program} {S : Sems} {p : Name} {ops : Array Oper} {rest : List Oper} {k : Sa → Prop} {s : Sa} {op : Op} {ty : TypeId} {ps : String} {af : Array Edge} :
    evOps P S p ops (⟨none, op, ty, ps, af, none⟩ :: rest) s k = (True ∧ evOp P S p ⟨none, op, ty, ps, af, none⟩ s (evOpsK P S p ops rest k)) := rfl
/-- An operation that waits for a test's outcome. -/
def guardK (P : Program) (S : Sems) (p : Name) (ops : Array Oper) (o : Oper) (rest : List Oper) (want : Bool) (t : Tmp) (s : Sa) (k : Sa → Prop) : V → Prop
  | .d (.v (.bool b)) => CaseB b
      (if want then evOp P S p o (s.put (some t) (.d (.v (.bool true)))) (evOpsK P S p ops rest k) else evOps P S p ops rest ((s.put (some t) (.d (.v (.bool true)))).put o.dst (.tup [])) k)
      (if want then evOps P S p ops rest ((s.put (some t) (.d (.v (.bool false)))).put o.dst (.tup [])) k else evOp P S p o (s.put (some t) (.d (.v (.bool false)))) (evOpsK P S p ops rest k))
  | .tup [] => evOps P S p ops rest (s.put o.dst (.tup [])) k
  | _ => False
def guardT (ops : Array Oper) (j : Nat) : Option Tmp := (ops[j]?).bind (·.dst)
@[go_sem] theorem evOps_guard {P : Program} {S : Sems} {p : Name} {ops : Array Oper} {rest : List Oper} {k : Sa → Prop} {s : Sa} {d : Tmp} {op : Op} {ty : TypeId} {ps : String} {af : Array Edge} {j : Nat} {want : Bool} :
    evOps P S p ops (⟨some d, op, ty, ps, af, some (j, want)⟩ :: rest) s k = (d < s.n ∧ match (ops[j]?).bind (·.dst) with | some t => guardK P S p ops ⟨some d, op, ty, ps, af, some (j, want)⟩ rest want t s k (lkT t s.ts) | none => False) := by
  simp only [evOps]
  cases (ops[j]?).bind (·.dst) with
  | none => rfl
  | some t =>
    simp only
    generalize lkT t s.ts = v
    cases v with
    | d x => cases x with
      | v c => cases c <;> rfl
      | _ => rfl
    | tup l => cases l <;> rfl
    | _ => rfl
@[go_sem] theorem evOps_guard0 {P : Program} {S : Sems} {p : Name} {ops : Array Oper} {rest : List Oper} {k : Sa → Prop} {s : Sa} {op : Op} {ty : TypeId} {ps : String} {af : Array Edge} {j : Nat} {want : Bool} :
    evOps P S p ops (⟨none, op, ty, ps, af, some (j, want)⟩ :: rest) s k = (True ∧ match (ops[j]?).bind (·.dst) with | some t => guardK P S p ops ⟨none, op, ty, ps, af, some (j, want)⟩ rest want t s k (lkT t s.ts) | none => False) := by
  simp only [evOps]
  cases (ops[j]?).bind (·.dst) with
  | none => rfl
  | some t =>
    simp only
    generalize lkT t s.ts = v
    cases v with
    | d x => cases x with
      | v c => cases c <;> rfl
      | _ => rfl
    | tup l => cases l <;> rfl
    | _ => rfl
@[go_sem] theorem guardK_true {P : Program} {S : Sems} {p : Name} {ops : Array Oper} {o : Oper} {rest : List Oper} {t : Tmp} {s : Sa} {k : Sa → Prop} {b : Bool} :
    guardK P S p ops o rest true t s k (.d (.v (.bool b))) = CaseB b (evOp P S p o (s.put (some t) (.d (.v (.bool true)))) (evOpsK P S p ops rest k)) (evOps P S p ops rest ((s.put (some t) (.d (.v (.bool false)))).put o.dst (.tup [])) k) := rfl
@[go_sem] theorem guardK_false {P : Program} {S : Sems} {p : Name} {ops : Array Oper} {o : Oper} {rest : List Oper} {t : Tmp} {s : Sa} {k : Sa → Prop} {b : Bool} :
    guardK P S p ops o rest false t s k (.d (.v (.bool b))) = CaseB b (evOps P S p ops rest ((s.put (some t) (.d (.v (.bool true)))).put o.dst (.tup [])) k) (evOp P S p o (s.put (some t) (.d (.v (.bool false)))) (evOpsK P S p ops rest k)) := rfl
@[go_sem] theorem guardK_tup {P : Program} {S : Sems} {p : Name} {ops : Array Oper} {o : Oper} {rest : List Oper} {want : Bool} {t : Tmp} {s : Sa} {k : Sa → Prop} :
    guardK P S p ops o rest want t s k (.tup []) = evOps P S p ops rest (s.put o.dst (.tup [])) k := rfl
def seqK (P : Program) (S : Sems) (p : Name) (b : Code) (Q : Ex → Sa → Prop) : Ex → Sa → Prop := fun e s' => match e with | .norm => ev P S p b s' Q | e => Q e s'
@[go_sem] theorem seqK_norm {P : Program} {S : Sems} {p : Name} {b : Code} {Q : Ex → Sa → Prop} {s : Sa} : seqK P S p b Q .norm s = ev P S p b s Q := rfl
@[go_sem] theorem seqK_exit {P : Program} {S : Sems} {p : Name} {b : Code} {Q : Ex → Sa → Prop} {s : Sa} {i : Nat} : seqK P S p b Q (.exit i) s = Q (.exit i) s := rfl
@[go_sem] theorem seqK_ret {P : Program} {S : Sems} {p : Name} {b : Code} {Q : Ex → Sa → Prop} {s : Sa} : seqK P S p b Q .ret s = Q .ret s := rfl
def blkK (id : Nat) (Q : Ex → Sa → Prop) : Ex → Sa → Prop := fun e s' => match e with | .exit i => if i = id then Q .norm s' else Q (.exit i) s' | e => Q e s'
@[go_sem] theorem blkK_norm {id : Nat} {Q : Ex → Sa → Prop} {s : Sa} : blkK id Q .norm s = Q .norm s := rfl
@[go_sem] theorem blkK_exit {id : Nat} {Q : Ex → Sa → Prop} {s : Sa} {i : Nat} : blkK id Q (.exit i) s = if i = id then Q .norm s else Q (.exit i) s := rfl
@[go_sem] theorem blkK_ret {id : Nat} {Q : Ex → Sa → Prop} {s : Sa} : blkK id Q .ret s = Q .ret s := rfl
section
variable {P : Program} {S : Sems} {p : Name} {s : Sa} {Q : Ex → Sa → Prop}
@[go_sem] theorem ev_skip : ev P S p .skip s Q = Q .norm s := rfl
@[go_sem] theorem ev_region {id : Nat} {ops : Array Oper} : ev P S p (.region id ops false) s Q = evOps P S p ops ops.toList s (Q .norm) := rfl
@[go_sem] theorem ev_draw {id : Nat} {ops : Array Oper} : ev P S p (.region id ops true) s Q = S.code p (.region id ops true) s Q := rfl
@[go_sem] theorem ev_seq {a b : Code} : ev P S p (.seq a b) s Q = ev P S p a s (seqK P S p b Q) := rfl
def condK (P : Program) (S : Sems) (p : Name) (x y : Code) (s : Sa) (Q : Ex → Sa → Prop) : V → Prop
  | .d (.v (.bool b)) => CaseB b (ev P S p x s Q) (ev P S p y s Q)
  | _ => False
@[go_sem] theorem ev_cond {c : Operand} {x y : Code} : ev P S p (.cond c x y) s Q = condK P S p x y s Q (s.get c) := by
  simp only [ev]
  generalize s.get c = v
  cases v with
  | d x => cases x with
    | v c => cases c <;> rfl
    | _ => rfl
  | _ => rfl
@[go_sem] theorem condK_bool {x y : Code} {b : Bool} : condK P S p x y s Q (.d (.v (.bool b))) = CaseB b (ev P S p x s Q) (ev P S p y s Q) := rfl
@[go_sem] theorem ev_block {id : Nat} {b : Code} : ev P S p (.block id b) s Q = ev P S p b s (blkK id Q) := rfl
@[go_sem] theorem ev_loop {b : Code} : ev P S p (.loop b) s Q = S.code p (.loop b) s Q := rfl
@[go_sem] theorem ev_exit {id : Nat} : ev P S p (.exit id) s Q = Q (.exit id) s := rfl
@[go_sem] theorem ev_ret : ev P S p .ret s Q = Q .ret s := rfl
@[go_sem] theorem ev_rangeFunc {f : Operand} {ps : Array Tmp} {a b : Code} : ev P S p (.rangeFunc f ps a b) s Q = S.code p (.rangeFunc f ps a b) s Q := rfl
def evSegK (P : Program) (p : Name) (ops : Array Oper) (rest : List Nat) (k : Sa → Prop) : Sa → Prop := fun s' => evSeg P p ops rest s' k
@[go_sem] theorem evSegK_ap {ops : Array Oper} {rest : List Nat} {k : Sa → Prop} : evSegK P p ops rest k s = evSeg P p ops rest s k := rfl
@[go_sem] theorem evSeg_nil {ops : Array Oper} {k : Sa → Prop} : evSeg P p ops [] s k = k s := rfl
@[go_sem] theorem evSeg_cons {ops : Array Oper} {i : Nat} {rest : List Nat} {k : Sa → Prop} : evSeg P p ops (i :: rest) s k = (match ops[i]? with | some o => nilOK s o.op = true ∧ evOps P (semsP P) p ops [o] s (evSegK P p ops rest k) | none => False) := rfl
def evPlanK (P : Program) (p : Name) (ops : Array Oper) (rest : List Seg) (k : Sa → Prop) : Sa → Prop := fun s' => evPlan P p ops rest s' k
@[go_sem] theorem evPlanK_ap {ops : Array Oper} {rest : List Seg} {k : Sa → Prop} : evPlanK P p ops rest k s = evPlan P p ops rest s k := rfl
@[go_sem] theorem evPlan_nil {ops : Array Oper} {k : Sa → Prop} : evPlan P p ops [] s k = k s := rfl
@[go_sem] theorem evPlan_calm {ops : Array Oper} {l : List Nat} {rest : List Seg} {k : Sa → Prop} : evPlan P p ops (.calm l :: rest) s k = evSeg P p ops l s (evPlanK P p ops rest k) := rfl
def freshK2 (P : Program) (p : Name) (ops : Array Oper) (rest : List Seg) (k : Sa → Prop) (oj : Oper) : Sa → Prop := fun s2 => evOps P (sems P) p ops [oj] s2 (evPlanK P p ops rest k)
@[go_sem] theorem freshK2_ap {ops : Array Oper} {rest : List Seg} {k : Sa → Prop} {oj : Oper} : freshK2 P p ops rest k oj s = evOps P (sems P) p ops [oj] s (evPlanK P p ops rest k) := rfl
def freshK1 (P : Program) (p : Name) (ops : Array Oper) (rest : List Seg) (k : Sa → Prop) (oi oj : Oper) (x : Operand) : Sa → Prop := fun s1 => (s1.get x).notNil = true ∧ evOps P (sems P) p ops [oi] s1 (freshK2 P p ops rest k oj)
@[go_sem] theorem freshK1_ap {ops : Array Oper} {rest : List Seg} {k : Sa → Prop} {oi oj : Oper} {x : Operand} : freshK1 P p ops rest k oi oj x s = ((s.get x).notNil = true ∧ evOps P (sems P) p ops [oi] s (freshK2 P p ops rest k oj)) := rfl
@[go_sem] theorem evPlan_fresh {ops : Array Oper} {l : List Nat} {i j : Nat} {rest : List Seg} {k : Sa → Prop} : evPlan P p ops (.fresh l i j :: rest) s k = (match ops[i]?, ops[j]? with
    | some oi, some oj => match oi.dst, oi.op, oj.op with
      | some t, .alloc ty, .store _ _ x => s.refs (t :: p) = false ∧ (tzero P ty).notNil = true ∧ evSeg P p ops l s (freshK1 P p ops rest k oi oj x)
      | _, _, _ => False
    | _, _ => False) := rfl
@[go_sem] theorem evPlan_bar {ops : Array Oper} {i : Nat} {rest : List Seg} {k : Sa → Prop} : evPlan P p ops (.bar i :: rest) s k = (match ops[i]? with | some o => evOps P (sems P) p ops [o] s (evPlanK P p ops rest k) | none => False) := rfl
end
/-- Behind one turn of a loop. -/
def LoopK {ι : Type} (S : ι → Sa) (μ : ι → Nat) (i : ι) (Q : Ex → Sa → Prop) : Ex → Sa → Prop := fun e s' => match e with | .norm => ∃ j, Wk s' (S j) ∧ μ j < μ i | e => Q e s'
@[go_sem] theorem LoopK_norm {ι : Type} {S : ι → Sa} {μ : ι → Nat} {i : ι} {Q : Ex → Sa → Prop} {s : Sa} : LoopK S μ i Q .norm s = ∃ j, Wk s (S j) ∧ μ j < μ i := rfl
@[go_sem] theorem LoopK_exit {ι : Type} {S : ι → Sa} {μ : ι → Nat} {i : ι} {Q : Ex → Sa → Prop} {s : Sa} {x : Nat} : LoopK S μ i Q (.exit x) s = Q (.exit x) s := rfl
@[go_sem] theorem LoopK_ret {ι : Type} {S : ι → Sa} {μ : ι → Nat} {i : ι} {Q : Ex → Sa → Prop} {s : Sa} : LoopK S μ i Q .ret s = Q .ret s := rfl
theorem TC_while {P : Program} {p : Name} {s : Sa} {ι : Type} (S : ι → Sa) (μ : ι → Nat) (i : ι) {b : Code} {Q : Ex → Sa → Prop} (hw : Wk s (S i)) (h : ∀ i, ev P (sems P) p b (S i) (LoopK S μ i Q)) : TC P p (.loop b) s Q :=
  TC_loop' S μ i hw h
@[go_sem] theorem evOp_move_1 {P : Program} {S : Sems} {p : Name} {dst : Option Tmp} {ty : TypeId} {ps : String} {af : Array Edge} {g : Option (Nat × Bool)} {s : Sa} {k : Sa → Prop} {x} : evOp P S p ⟨dst, .move x, ty, ps, af, g⟩ s k = ( k (s.put dst (s.get x))) := rfl
@[go_sem] theorem evOp_assign_2 {P : Program} {S : Sems} {p : Name} {dst : Option Tmp} {ty : TypeId} {ps : String} {af : Array Edge} {g : Option (Nat × Bool)} {s : Sa} {k : Sa → Prop} {x} : evOp P S p ⟨dst, .assign x, ty, ps, af, g⟩ s k = ( k ((s.claim ((dst.getD 0) :: p) (esz P ty) (s.get x)).2.put dst (s.claim ((dst.getD 0) :: p) (esz P ty) (s.get x)).1)) := rfl
@[go_sem] theorem evOp_pick_3 {P : Program} {S : Sems} {p : Name} {dst : Option Tmp} {ty : TypeId} {ps : String} {af : Array Edge} {g : Option (Nat × Bool)} {s : Sa} {k : Sa → Prop} {c} {a} {b} : evOp P S p ⟨dst, .pick c a b, ty, ps, af, g⟩ s k = ( match s.get c with
    | .d (.v (.bool t)) => CaseB t (k (s.put dst (s.get a))) (k (s.put dst (s.get b)))
    | _ => False) := rfl
@[go_sem] theorem evOp_alloc_4 {P : Program} {S : Sems} {p : Name} {dst : Option Tmp} {ty : TypeId} {ps : String} {af : Array Edge} {g : Option (Nat × Bool)} {s : Sa} {k : Sa → Prop} {t} : evOp P S p ⟨dst, .alloc t, ty, ps, af, g⟩ s k = (
    let r := s.claim (1000000 :: (dst.getD 0) :: p) (esz P t) (tzero P t)
    (tzero P t).cells.length = tsz P t ∧ isCells (tzero P t) = true ∧ s.refs ((dst.getD 0) :: p) = false ∧ lookN ((dst.getD 0) :: p) s.bx = none ∧ k ({ r.2 with bx := ((dst.getD 0) :: p, r.1) :: r.2.bx }.put dst (.ptr ((dst.getD 0) :: p) 0))) := rfl
@[go_sem] theorem evOp_box_5 {P : Program} {S : Sems} {p : Name} {dst : Option Tmp} {ty : TypeId} {ps : String} {af : Array Edge} {g : Option (Nat × Bool)} {s : Sa} {k : Sa → Prop} {t} {x} : evOp P S p ⟨dst, .box t x, ty, ps, af, g⟩ s k = (
    let r := s.claim (1000000 :: (dst.getD 0) :: p) (esz P t) (s.get x)
    isCells (s.get x) = true ∧ s.refs ((dst.getD 0) :: p) = false ∧ lookN ((dst.getD 0) :: p) s.bx = none ∧ k ({ r.2 with bx := ((dst.getD 0) :: p, r.1) :: r.2.bx }.put dst (.ptr ((dst.getD 0) :: p) 0))) := rfl
@[go_sem] theorem evOp_build_6 {P : Program} {S : Sems} {p : Name} {dst : Option Tmp} {ty : TypeId} {ps : String} {af : Array Edge} {g : Option (Nat × Bool)} {s : Sa} {k : Sa → Prop} {t} {parts} : evOp P S p ⟨dst, .build t parts, ty, ps, af, g⟩ s k = (
    tbuild P t = true ∧ isCells (tzero P t) = true ∧ match fillV (tplace P t) (tzero P t).cells (parts.toList.map fun x => (x.1, s.get x.2)) with
    | some cs => k (s.put dst (mkAgg cs))
    | none => False) := rfl
@[go_sem] theorem evOp_buildSlice_7 {P : Program} {S : Sems} {p : Name} {dst : Option Tmp} {ty : TypeId} {ps : String} {af : Array Edge} {g : Option (Nat × Bool)} {s : Sa} {k : Sa → Prop} {t} {len} {parts} : evOp P S p ⟨dst, .buildSlice t len parts, ty, ps, af, g⟩ s k = (
    match telem P t with
    | some e => tsz P e ≠ 0 ∧ isCells (tzero P e) = true ∧ len * tsz P e ≤ 16777216 ∧ parts.toList.map (·.1) = List.range len ∧
      match toDs V.toD (parts.toList.map fun x => s.get x.2) with
      | some xs => (∀ x ∈ xs, x.cells.length = tsz P e) ∧ if len = 0 then k ((s.claim ((dst.getD 0) :: p) (some (tsz P e)) .nil).2.put dst (s.claim ((dst.getD 0) :: p) (some (tsz P e)) .nil).1) else k (s.put dst (.d (.sl xs)))
      | none => False
    | none => False) := rfl
@[go_sem] theorem evOp_load_8 {P : Program} {S : Sems} {p : Name} {dst : Option Tmp} {ty : TypeId} {ps : String} {af : Array Edge} {g : Option (Nat × Bool)} {s : Sa} {k : Sa → Prop} {t} {a} : evOp P S p ⟨dst, .load t a, ty, ps, af, g⟩ s k = ( match tagg P t with
    | some ag => (ag = false → tsz P t ≠ 0) ∧ match s.get a with
      | .ptr n off => match lookN n s.bx with
        | some c => off + tsz P t ≤ c.cells.length ∧ k (s.put dst (loadBox ag off (tsz P t) c))
        | none => False
      | .ref cs => tsz P t ≤ cs.length ∧ k (s.put dst (takeD ag (tsz P t) cs))
      | _ => False
    | none => False) := rfl
@[go_sem] theorem evOp_store_9 {P : Program} {S : Sems} {p : Name} {dst : Option Tmp} {ty : TypeId} {ps : String} {af : Array Edge} {g : Option (Nat × Bool)} {s : Sa} {k : Sa → Prop} {t} {a} {x} : evOp P S p ⟨dst, .store t a x, ty, ps, af, g⟩ s k = ( match s.get a with
    | .ptr n off => match lookN n s.bx with
      | some _ =>
        let r := s.claim ((1000000 + off) :: n) (esz P t) (s.get x)
        match lookN n r.2.bx with
        | some c => isCells (s.get x) = true ∧ tsz P t ≠ 0 ∧ r.1.cells.length = tsz P t ∧ off + tsz P t ≤ c.cells.length ∧ k ({ r.2 with bx := setN n (storeBox off r.1 c) r.2.bx }.put dst .dead)
        | none => False
      | none => False
    | _ => False) := rfl
@[go_sem] theorem evOp_nilCheck_10 {P : Program} {S : Sems} {p : Name} {dst : Option Tmp} {ty : TypeId} {ps : String} {af : Array Edge} {g : Option (Nat × Bool)} {s : Sa} {k : Sa → Prop} {x} : evOp P S p ⟨dst, .nilCheck x, ty, ps, af, g⟩ s k = ( match s.get x with
    | .ptr n off => k (s.put dst (.ptr n off))
    | .ref cs => k (s.put dst (.ref cs))
    | _ => False) := rfl
@[go_sem] theorem evOp_binOp_11 {P : Program} {S : Sems} {p : Name} {dst : Option Tmp} {ty : TypeId} {ps : String} {af : Array Edge} {g : Option (Nat × Bool)} {s : Sa} {k : Sa → Prop} {op} {t} {x} {y} {uu} : evOp P S p ⟨dst, .binOp op t x y uu, ty, ps, af, g⟩ s k = ( match s.get y with
    | .d (.v b) => match s.get x with
      | .d (.v a) => binV P t op a b (putK dst s k)
      | _ => False
    | .d (.agg ys) => match s.get x with
      | .d (.agg xs) => match flatKinds P t with
        | some ks => match eqDs ks xs ys with
          | some r => match op with
            | .eql => k (s.put dst (.d (.v (.bool r))))
            | .neq => k (s.put dst (.d (.v (.bool !r))))
            | _ => False
          | none => False
        | none => False
      | _ => False
    | .nil => match telem P t with
      | some _ => match s.get x with
        | .nil => match op with
          | .eql => k (s.put dst (.d (.v (.bool true))))
          | .neq => k (s.put dst (.d (.v (.bool false))))
          | _ => False
        | .d (.sl xs) => match op with
          | .eql => (xs = [] → k (s.put dst (.d (.v (.bool true))))) ∧ k (s.put dst (.d (.v (.bool false))))
          | .neq => (xs = [] → k (s.put dst (.d (.v (.bool false))))) ∧ k (s.put dst (.d (.v (.bool true))))
          | _ => False
        | .own _ _ xs => match op with
          | .eql => (xs = [] → k (s.put dst (.d (.v (.bool true))))) ∧ k (s.put dst (.d (.v (.bool false))))
          | .neq => (xs = [] → k (s.put dst (.d (.v (.bool false))))) ∧ k (s.put dst (.d (.v (.bool true))))
          | _ => False
        | _ => False
      | none => False
    | _ => False) := rfl
@[go_sem] theorem evOp_unOp_12 {P : Program} {S : Sems} {p : Name} {dst : Option Tmp} {ty : TypeId} {ps : String} {af : Array Edge} {g : Option (Nat × Bool)} {s : Sa} {k : Sa → Prop} {op} {x} {uu} : evOp P S p ⟨dst, .unOp op uu x, ty, ps, af, g⟩ s k = ( match s.get x with
    | .d (.v a) => unV op a (putK dst s k)
    | _ => False) := rfl
@[go_sem] theorem evOp_convert_13 {P : Program} {S : Sems} {p : Name} {dst : Option Tmp} {ty : TypeId} {ps : String} {af : Array Edge} {g : Option (Nat × Bool)} {s : Sa} {k : Sa → Prop} {src} {t} {x} : evOp P S p ⟨dst, .convert src t x, ty, ps, af, g⟩ s k = ( match P.underlying t, s.get x with
    | some (.int kd), .d (.v (.int _ n)) => (P.underlying src).isSome = true ∧ k (s.put dst (.d (.v (.int kd (kd.wrap n)))))
    | _, _ => False) := rfl
@[go_sem] theorem evOp_makeFunc_14 {P : Program} {S : Sems} {p : Name} {dst : Option Tmp} {ty : TypeId} {ps : String} {af : Array Edge} {g : Option (Nat × Bool)} {s : Sa} {k : Sa → Prop} {f} {first} {cap} : evOp P S p ⟨dst, .makeFunc (.func f) first cap, ty, ps, af, g⟩ s k = ( first = #[] ∧ k (s.put dst (.fn f (cap.toList.map s.get)))) := rfl
@[go_sem] theorem evOp_fieldAddr_15 {P : Program} {S : Sems} {p : Name} {dst : Option Tmp} {ty : TypeId} {ps : String} {af : Array Edge} {g : Option (Nat × Bool)} {s : Sa} {k : Sa → Prop} {t} {x} {i} : evOp P S p ⟨dst, .fieldAddr t x i, ty, ps, af, g⟩ s k = ( match tfield P t i with
    | some (off, ft) => tsz P ft ≠ 0 ∧ match s.get x with
      | .ptr n o => k (s.put dst (.ptr n (o + off)))
      | .ref cs => k (s.put dst (.ref (cs.drop off)))
      | _ => False
    | none => False) := rfl
@[go_sem] theorem evOp_field_16 {P : Program} {S : Sems} {p : Name} {dst : Option Tmp} {ty : TypeId} {ps : String} {af : Array Edge} {g : Option (Nat × Bool)} {s : Sa} {k : Sa → Prop} {t} {x} {i} : evOp P S p ⟨dst, .field t x i, ty, ps, af, g⟩ s k = ( match tfield P t i with
    | some (off, ft) => match tagg P ft with
      | some ag => (ag = false → tsz P ft ≠ 0) ∧ off + tsz P ft ≤ (s.get x).cells.length ∧ (s.get x).isStr = true ∧ k (s.put dst (loadBox ag off (tsz P ft) (s.get x)))
      | none => False
    | none => False) := rfl
@[go_sem] theorem evOp_indexAddr_17 {P : Program} {S : Sems} {p : Name} {dst : Option Tmp} {ty : TypeId} {ps : String} {af : Array Edge} {g : Option (Nat × Bool)} {s : Sa} {k : Sa → Prop} {t} {x} {ix} : evOp P S p ⟨dst, .indexAddr t x ix, ty, ps, af, g⟩ s k = ( match intOfV (s.get ix) with
    | some i => match telem P t with
      | some e => match sliceOf (s.get x) with
        | some xs => tsz P e ≠ 0 ∧ 0 ≤ i ∧ i < xs.length ∧ ∀ x, xs[i.toNat]? = some x → x.cells.length = tsz P e ∧ k (s.put dst (.ref x.cells))
        | none => False
      | none => match tarr P t with
        | some (n, e) => tsz P e ≠ 0 ∧ 0 ≤ i ∧ i < n ∧ 2 ≤ n ∧ match s.get x with
          | .ptr b o => k (s.put dst (.ptr b (o + i.toNat * tsz P e)))
          | .ref cs => k (s.put dst (.ref (cs.drop (i.toNat * tsz P e))))
          | _ => False
        | none => False
    | none => False) := rfl
@[go_sem] theorem evOp_slice_18 {P : Program} {S : Sems} {p : Name} {dst : Option Tmp} {ty : TypeId} {ps : String} {af : Array Edge} {g : Option (Nat × Bool)} {s : Sa} {k : Sa → Prop} {t} {x} {lo} {hi} : evOp P S p ⟨dst, .slice t x lo hi none, ty, ps, af, g⟩ s k = ( match telem P t, sliceOf (s.get x), (match lo with | some l => intOfV (s.get l) | none => some 0) with
    | some e, some xs, some l => match (match hi with | some h => intOfV (s.get h) | none => some (xs.length : Int)) with
      | some h => tsz P e ≠ 0 ∧ 0 ≤ l ∧ l ≤ h ∧ h ≤ xs.length ∧ (0 < l → ∀ x ∈ xs, x.cells.length = tsz P e) ∧ k (s.put dst (.d (.sl ((xs.take h.toNat).drop l.toNat))))
      | none => False
    | _, _, _ => False) := rfl
@[go_sem] theorem evOp_extract_19 {P : Program} {S : Sems} {p : Name} {dst : Option Tmp} {ty : TypeId} {ps : String} {af : Array Edge} {g : Option (Nat × Bool)} {s : Sa} {k : Sa → Prop} {x} {i} : evOp P S p ⟨dst, .extract x i, ty, ps, af, g⟩ s k = ( match s.get x with
    | .tup vs => match vs[i]? with
      | some v => k (s.put dst v)
      | none => False
    | _ => False) := rfl
@[go_sem] theorem evOp_makeMap_20 {P : Program} {S : Sems} {p : Name} {dst : Option Tmp} {ty : TypeId} {ps : String} {af : Array Edge} {g : Option (Nat × Bool)} {s : Sa} {k : Sa → Prop} {t} : evOp P S p ⟨dst, .makeMap t none, ty, ps, af, g⟩ s k = ( match tmapk P t with
    | some kd => s.refs ((dst.getD 0) :: p) = false ∧ lookN ((dst.getD 0) :: p) s.bx = none ∧ k ({ s with bx := ((dst.getD 0) :: p, .mpc kd []) :: s.bx }.put dst (.mref ((dst.getD 0) :: p)))
    | none => False) := rfl
@[go_sem] theorem evOp_mapUpdate_21 {P : Program} {S : Sems} {p : Name} {dst : Option Tmp} {ty : TypeId} {ps : String} {af : Array Edge} {g : Option (Nat × Bool)} {s : Sa} {k : Sa → Prop} {t} {m} {ky} {x} : evOp P S p ⟨dst, .mapUpdate t m ky x, ty, ps, af, g⟩ s k = ( match tmapk P t, s.get m with
    | some kd, .mref n => match lookN n s.bx with
      | some (.mpc kd' kvs) => kd' = kd ∧ match s.get ky, s.get x with
        | .d (.v (.int kd2 a)), .d (.v c) => kd2 = kd ∧ k ({ s with bx := setN n (.mpc kd (putKV a c kvs)) s.bx }.put dst .dead)
        | _, _ => False
      | _ => False
    | _, _ => False) := rfl
@[go_sem] theorem evOp_lookup_22 {P : Program} {S : Sems} {p : Name} {dst : Option Tmp} {ty : TypeId} {ps : String} {af : Array Edge} {g : Option (Nat × Bool)} {s : Sa} {k : Sa → Prop} {t} {x} {ix} {ok} : evOp P S p ⟨dst, .lookup t x ix ok, ty, ps, af, g⟩ s k = ( match tmapk P t, tmape P t, s.get x with
    | some kd, some et, .mref n => match lookN n s.bx with
      | some (.mpc kd' kvs) => kd' = kd ∧ match s.get ix with
        | .d (.v (.int kd2 a)) => kd2 = kd ∧ isCells (tzero P et) = true ∧ k (s.put dst (if ok then .tup [((getKV a kvs).map (fun c => V.d (.v c))).getD (tzero P et), .d (.v (.bool (getKV a kvs).isSome))] else ((getKV a kvs).map (fun c => V.d (.v c))).getD (tzero P et)))
        | _ => False
      | _ => False
    | _, _, _ => False) := rfl
@[go_sem] theorem evOp_call_23 {P : Program} {S : Sems} {p : Name} {dst : Option Tmp} {ty : TypeId} {ps : String} {af : Array Edge} {g : Option (Nat × Bool)} {s : Sa} {k : Sa → Prop} {c} : evOp P S p ⟨dst, .call c, ty, ps, af, g⟩ s k = ( match c.callee with
    | .builtin .len => match (c.args.toList.map s.get), c.argTypes.toList with
      | [x], t :: _ => match telem P t, sliceOf x with
        | some _, some xs => k (s.put dst (.d (.v (.int .i64 xs.length))))
        | _, _ => match P.underlying t, x with
          | some .string, .d (.v (.string b)) => k (s.put dst (.d (.v (.int .i64 b.size))))
          | some (.array nn _), _ => nn ≤ 9223372036854775807 ∧ k (s.put dst (.d (.v (.int .i64 nn))))
          | _, _ => False
      | _, _ => False
    | .builtin .append => match (c.args.toList.map s.get), c.argTypes.toList with
      | [x, y], t :: u :: _ => match telem P t, sliceOf y with
        | some e, some ys => telem P u = some e ∧ tsz P e ≠ 0 ∧ isCells (tzero P e) = true ∧ (tzero P e).cells.length = tsz P e ∧ (∀ y ∈ ys, y.cells.length = tsz P e) ∧ match x with
          | .own i sz xs => i ∈ s.ow ∧ sz = tsz P e ∧ (xs.length + ys.length) * tbytes P e ≤ 140737488355328 ∧ xs.length + ys.length ≤ 9223372036854775807 ∧
              k ({ s.strip i with ow := i :: (s.strip i).ow }.put dst (.own i sz (xs ++ ys)))
          | .nil => ys.length * tbytes P e ≤ 140737488355328 ∧ ys.length ≤ 9223372036854775807 ∧
              k ({ s.strip ((dst.getD 0) :: p) with ow := ((dst.getD 0) :: p) :: (s.strip ((dst.getD 0) :: p)).ow }.put dst (.own ((dst.getD 0) :: p) (tsz P e) ys))
          | _ => False
        | _, _ => False
      | _, _ => False
    | .builtin .max => match (c.args.toList.map s.get) with
      | [.d (.v (.int q a)), .d (.v (.int q2 b))] => q = q2 ∧ k (s.put dst (.d (.v (.int q (if b > a then b else a)))))
      | _ => False
    | .builtin .min => match (c.args.toList.map s.get) with
      | [.d (.v (.int q a)), .d (.v (.int q2 b))] => q = q2 ∧ k (s.put dst (.d (.v (.int q (if b < a then b else a)))))
      | _ => False
    | .value f => match s.get f with
      | .d (.v (.func (.func g) _ _)) => callable P g = true ∧ S.call ((dst.getD 0) :: p) g (c.args.toList.map s.get) s (callK dst k)
      | .fn g cap => callable P g = true ∧ S.call ((dst.getD 0) :: p) g (c.args.toList.map s.get ++ cap) s (callK dst k)
      | .yld l => S.yld ((dst.getD 0) :: p) l (c.args.toList.map s.get) s (callK dst k)
      | _ => False
    | _ => False) := rfl
@[go_sem] theorem sems_code {P : Program} {p : Name} {c : Code} {s : Sa} {Q : Ex → Sa → Prop} : (sems P).code p c s Q = TC P p c s Q := rfl
@[go_sem] theorem sems_call {P : Program} {p : Name} {f : FuncId} {args : List V} {s : Sa} {k : V → Sa → Prop} : (sems P).call p f args s k = TCall P p f args s k := rfl
@[go_sem] theorem sems_yld {P : Program} {p : Name} {l : Name} {args : List V} {s : Sa} {k : V → Sa → Prop} : (sems P).yld p l args s k = TYld P p l args s k := rfl
@[go_sem] theorem semsP_call {P : Program} {p : Name} {f : FuncId} {args : List V} {s : Sa} {k : V → Sa → Prop} : (semsP P).call p f args s k = PCall P f args s k := rfl
@[go_sem] theorem semsP_code {P : Program} {p : Name} {c : Code} {s : Sa} {Q : Ex → Sa → Prop} : (semsP P).code p c s Q = False := rfl
@[go_sem] theorem semsP_yld {P : Program} {p : Name} {l : Name} {args : List V} {s : Sa} {k : V → Sa → Prop} : (semsP P).yld p l args s k = False := rfl
attribute [go_sem] Sa.get lkT setT Sa.put Sa.refs lookN esz V.refs V.refsL Sa.claim constV scalar List.any_cons List.any_nil Bool.or_false Option.getD_some List.map_cons List.map_nil
  isCells Option.map_some Option.map_none setN intOfV binV cmpInt arith fillV toDs V.toD V.toD1 V.asD Out resK s0 argTs inR unV and_true true_and if_true if_false
  Sa.strip mapT V.strip V.stripL List.filter_nil List.filter_cons mkRes Sa.push Sa.pop Left lpD List.drop_drop List.drop_zero Array.toList_map
  nilOK V.notNil mkAgg mkAggB List.range_succ eqDs Option.bind_some Option.bind_none
  EndK BeginK LeftLoop setLp Sa.round setAll frames Sa.loopIn Sa.loopOut jmp goesOn Sa.ylds V.ylds V.yldsL rds List.tail_cons V.isMpc
attribute [go_sem ↓] caseB_true caseB_false
@[go_sem] theorem sliceOf_sl (xs : List D) : sliceOf (.d (.sl xs)) = some xs := rfl
@[go_sem] theorem sliceOf_own (i : Name) (z : Nat) (xs : List D) : sliceOf (.own i z xs) = some xs := rfl
@[go_sem] theorem sliceOf_nil : sliceOf .nil = some [] := rfl
@[go_sem] theorem isStr_d (xs : List D) : (V.d (.agg xs)).isStr = true := rfl
@[go_sem] theorem isStr_agg (xs : List V) : (V.agg xs).isStr = true := rfl
@[go_sem] theorem cells_v (x : Value) : (V.d (.v x)).cells = [.d (.v x)] := rfl
@[go_sem] theorem cells_agg (cs : List D) : (V.d (.agg cs)).cells = cs.map .d := rfl
@[go_sem] theorem cells_sl (xs : List D) : (V.d (.sl xs)).cells = [.d (.sl xs)] := rfl
@[go_sem] theorem cells_nil : V.nil.cells = [V.nil] := rfl
@[go_sem] theorem cells_own (i : Name) (sz : Nat) (xs : List D) : (V.own i sz xs).cells = [.own i sz xs] := rfl
@[go_sem] theorem cells_ptr (n : Name) (o : Nat) : (V.ptr n o).cells = [.ptr n o] := rfl
@[go_sem] theorem cells_ref (cs : List D) : (V.ref cs).cells = [.ref cs] := rfl
@[go_sem] theorem cells_fn (f : FuncId) (cs : List V) : (V.fn f cs).cells = [.fn f cs] := rfl
@[go_sem] theorem cells_mref (n : Name) : (V.mref n).cells = [.mref n] := rfl
@[go_sem] theorem cells_yld (l : Name) : (V.yld l).cells = [.yld l] := rfl
@[go_sem] theorem cells_Vagg (cs : List V) : (V.agg cs).cells = cs := rfl
@[go_sem] theorem dcells_v (x : Value) : (D.v x).cells = [.v x] := rfl
@[go_sem] theorem dcells_agg (cs : List D) : (D.agg cs).cells = cs := rfl
@[go_sem] theorem dcells_sl (xs : List D) : (D.sl xs).cells = [.sl xs] := rfl
@[go_sem] theorem name_beq (a b : Nat) (l l' : List Nat) : ((a :: l) == (b :: l')) = (a == b && l == l') := rfl
@[go_sem] theorem name_mem (a b : List Nat) (l : List (List Nat)) : (a ∈ b :: l) = (a = b ∨ a ∈ l) := by simp
@[go_sem] theorem name_bne (l l' : List Nat) : (l != l') = !(l == l') := rfl
@[go_sem] theorem name_beq0 : (([] : List Nat) == []) = true := rfl
@[go_sem] theorem name_beq1 (a : Nat) (l : List Nat) : ((a :: l) == []) = false := rfl
@[go_sem] theorem name_beq2 (a : Nat) (l : List Nat) : (([] : List Nat) == a :: l) = false := rfl
end Go.Ab
/-! Tools for functions' proofs. -/
namespace Go.Ab
set_option linter.all false
open Go
theorem all_map {α : Type} (f : α → D) (l : List α) (i : Nat) (p : D → Prop) : (∀ x, (List.map f l)[i]? = some x → p x) = ∀ y, l[i]? = some y → p (f y) := by
  apply propext
  constructor
  · intro h y hy; exact h (f y) (by simp [hy])
  · intro h x hx
    simp only [List.getElem?_map, Option.map_eq_some_iff] at hx
    obtain ⟨y, hy, rfl⟩ := hx
    exact h y hy
attribute [go_sem ↓] all_map
@[go_sem] theorem cast_n (n : Nat) : ((no_index (OfNat.ofNat n) : Nat) : Int) = OfNat.ofNat n := rfl
theorem wrap_i64 {x : Int} (h1 : -9223372036854775808 ≤ x) (h2 : x ≤ 9223372036854775807) : IntKind.i64.wrap x = x := by
  simp only [IntKind.wrap, IntKind.bits, IntKind.signed]; simp; omega
theorem wrap_u64 {x : Int} : IntKind.u64.wrap x = x % 18446744073709551616 := by
  simp only [IntKind.wrap, IntKind.bits, IntKind.signed]; simp
theorem drop_get {α : Type} {l : List α} {k : Nat} {x : α} (h : l[k]? = some x) : l.drop k = x :: l.drop (k + 1) := by
  obtain ⟨hk, e⟩ := List.getElem?_eq_some_iff.1 h
  rw [← e]; exact List.drop_eq_getElem_cons hk
theorem get_lt {α : Type} {l : List α} {k : Nat} {x : α} (h : l[k]? = some x) : k < l.length := (List.getElem?_eq_some_iff.1 h).1
theorem wf_encL {α : Type} (f : α → D) (l : List α) : (encL f l).wf ↔ l.length ≤ 9223372036854775807 ∧ ∀ x ∈ l, (f x).wf := by
  have e : ∀ l : List α, D.wfL (l.map f) ↔ ∀ x ∈ l, (f x).wf := by
    intro l
    induction l with
    | nil => simp [D.wfL]
    | cons x l ih => simp [D.wfL, ih]
  rw [encL, D.wf, e, List.length_map]
theorem wf_i (n : Int) : (D.i n).wf ↔ -9223372036854775808 ≤ n ∧ n ≤ 9223372036854775807 := by simp [D.wf, okLeaf, inR]
theorem wf_u (n : Int) : (D.u n).wf ↔ 0 ≤ n ∧ n ≤ 18446744073709551615 := by simp [D.wf, okLeaf, inR]
theorem wf_b (b : Bool) : (D.b b).wf ↔ True := by simp [D.wf, okLeaf]
theorem wf_all {ds : List D} (h : ∀ i (hi : i < ds.length), ds[i].wf) : D.wfL ds := wfL_iff.2 h
theorem PureOK.of_body' {P : Program} {f : FuncId} {fn : Func} {c : Code} {ds rs : List D} (q : Name) (hf : P.funcs[f]? = some fn) (hb : fn.body = some c) (hle : ds.length ≤ fn.ntmps)
    (h : D.wfL ds → ev P (sems P) q c (s0 fn.ntmps ds) (Out P fn.results.toList rs)) : PureOK P f ds rs := PureOK.of_body q hf hb hle fun hwf => h (wf_all hwf)
theorem PureOK.eq {P : Program} {f : FuncId} {ds rs rs' : List D} (h : PureOK P f ds rs) (e : rs = rs') : PureOK P f ds rs' := e ▸ h
attribute [go_sem] List.length_drop List.forall_mem_cons List.not_mem_nil or_self List.take_zero List.take_succ_cons List.drop_succ_cons List.cons_append List.nil_append List.range_zero forall_eq' List.length_map Int.toNat_natCast Int.natCast_nonneg List.getElem?_toArray List.getElem?_cons_zero List.getElem?_cons_succ Option.isSome_some List.size_toArray List.length_cons List.length_nil List.cons.injEq beq_iff_eq Bool.false_eq_true and_false false_and not_true_eq_false not_false_eq_true ne_eq decide_true decide_false Bool.not_true Bool.not_false beq_self_eq_true Bool.true_eq_false forall_const implies_true Option.some.injEq false_implies Nat.zero_add Nat.add_zero false_or or_false true_or or_true Bool.and_true Bool.true_and Bool.and_false Bool.false_and Nat.succ_ne_self Nat.add_eq_zero_iff
end Go.Ab
