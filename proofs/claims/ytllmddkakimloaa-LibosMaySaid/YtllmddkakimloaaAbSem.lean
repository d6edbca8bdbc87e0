import Derived.Test.YtllmddkakimloaaAbVal
import Derived.Laws.StructEq
import Derived.ChangeKeysEq
import Derived.Laws.Cover3
/-! What calls, code and rounds mean on abstract states. -/
namespace Go.Ab
set_option linter.all false
open Go Go.RowKit

def Wd (r : Option Nat) : Fence := { Fence.wide with round := r }
def rdOf (m : Mp) (s : Sa) : Option Nat := s.rd.map m.lp

def ArgsOK (w : World) (M : Cells) (m : Mp) (args : List V) (vs : Array Value) : Prop :=
  vs.size = args.length ∧ ∀ i (hi : i < args.length), RepV w M m args[i] (vs.getD i undef)

/-- Behind a call. -/
def CallPost (Mo : Cells) (m : Mp) (s : Sa) (as : List Act) (w : World) (k : V → Sa → Prop) (e : Ending) (w' : World) : Prop :=
  ∃ c v m' s', e = .returned c ∧ k v s' ∧ Rel Mo m' s' as w' ∧ RepV w' (Tot Mo s'.bx s'.ow m') m' v c ∧ Step m s w m' s' w' ∧ rdOf m' s' = rdOf m s

def TCall (P : Program) (_p : Name) (f : FuncId) (args : List V) (s : Sa) (k : V → Sa → Prop) : Prop :=
  ∀ Mo m as w n vs r, Rel Mo m s as w → ArgsOK w (Tot Mo s.bx s.ow m) m args vs →
    CallsIn (Wd r) n P f vs w (CallPost Mo m s as w k)

def TYld (P : Program) (_p : Name) (l : Name) (args : List V) (s : Sa) (k : V → Sa → Prop) : Prop :=
  ∀ Mo m as w n vs r, Rel Mo m s as w → ArgsOK w (Tot Mo s.bx s.ow m) m args vs →
    ∃ rec : Loop, w.heap[m.lp l]? = some (.loop rec) ∧ vs.size = rec.params.size ∧
      RoundIn (Wd r) n P (m.lp l) rec.fn ((rec.params.zip vs).foldl (fun tmps (t, a) => tmps.setIfInBounds t a) rec.tmps) rec.assign rec.body w (CallPost Mo m s as w k)

def exOf : Exit → Option Ex
  | .normal => some .norm
  | .exit i => some (.exit i)
  | .ret => some .ret
  | _ => none
/-- The marks that an activation bears are elder ones, or lie behind. -/
def NewMarks (ds : List Deferred) (w : World) (ds' : List Deferred) : Prop := ∀ d ∈ ds', d ∈ ds ∨ ∃ r, d = { target := .collected r, args := #[] } ∧ w.heap.size ≤ r
def CodePost (Mo : Cells) (m : Mp) (s : Sa) (ds : List Deferred) (sv : List Act) (w : World) (Q : Ex → Sa → Prop) (e : Exit) (a' : Act) (w' : World) : Prop :=
  ∃ x m' s', exOf e = some x ∧ Q x s' ∧ Rel Mo m' s' (a' :: sv) w' ∧ Step m s w m' s' w' ∧ rdOf m' s' = rdOf m s ∧ NewMarks ds w a'.defers

def TC (P : Program) (_p : Name) (c : Code) (s : Sa) (Q : Ex → Sa → Prop) : Prop :=
  ∀ Mo m a sv w n, Rel Mo m s (a :: sv) w → c.wpIn (Wd (rdOf m s)) n P (CodePost Mo m s a.defers sv w Q) a w

def sems (P : Program) : Sems := { call := TCall P, yld := TYld P, code := TC P }

/-- What follows an operation. -/
def OpNext (Mo : Cells) (m : Mp) (s : Sa) (dst : Option Tmp) (a : Act) (sv : List Act) (w : World) (k : Sa → Prop) (K : Act → World → Prop) : Prop :=
  ∀ m' s' v w', k s' → Rel Mo m' s' (a.put dst v :: sv) w' → Step m s w m' s' w' → rdOf m' s' = rdOf m s → K (a.put dst v) w'

variable {P : Program} {o : Oper} {a : Act} {w : World} {K : Act → World → Prop} {Q : Exit → Act → World → Prop} {r : Option Nat} {n : Nat}
theorem op_value {w' : World} {v : Value} (hnd : ∀ c, o.op ≠ .defer c) (hrun : (execOp a.eval o).run P w = .ok (.value v) w') (hK : K (a.put o.dst v) w') : o.wpIn (Wd r) n P a w K Q :=
  ⟨fun _ _ => trivial, by rw [show (Wd r).round = r from rfl, Oper.semAt_eq _ _ _ hnd, hrun]; exact hK⟩
theorem op_skip {w' : World} (hnd : ∀ c, o.op ≠ .defer c) (hrun : (execOp a.eval o).run P w = .ok .skip w') (hK : K (a.put o.dst undef) w') : o.wpIn (Wd r) n P a w K Q :=
  ⟨fun _ _ => trivial, by rw [show (Wd r).round = r from rfl, Oper.semAt_eq _ _ _ hnd, hrun]; exact hK⟩

/-- A value is put; nothing else turns. -/
theorem next_put {Mo m s sv k} (hR : Rel Mo m s (a :: sv) w) (hd : ∀ d, o.dst = some d → d < s.n) (hK : OpNext Mo m s o.dst a sv w k K) {v : V} {c : Value}
    (hv : RepV w (Tot Mo s.bx s.ow m) m v c) (h : k (s.put o.dst v)) : K (a.put o.dst c) w := by
  refine hK m _ _ _ h (hR.put hd hv) ?_ ?_
  · cases o.dst <;> exact ⟨(Step.refl m s w).keeps, (Step.refl m s w).mt, (Step.refl m s w).lp, rfl, rfl, fun _ _ => rfl⟩
  · cases o.dst <;> rfl
theorem step_put {m s w m' s' w' d v} (h : Step m s w m' s' w') : Step m s w m' (s'.put d v) w' := by cases d <;> exact ⟨h.keeps, h.mt, h.lp, h.rd, h.svrd, h.lpm⟩
theorem rdOf_put {m : Mp} {s : Sa} {d v} : rdOf m (s.put d v) = rdOf m s := by cases d <;> rfl
theorem put_n {s : Sa} {d v} : (s.put d v).n = s.n := by cases d <;> rfl
/-- A value is put into another state. -/
theorem next_put' {Mo m s sv k} (hK : OpNext Mo m s o.dst a sv w k K) {m' s' w'} (hR : Rel Mo m' s' (a :: sv) w') (hd : ∀ d, o.dst = some d → d < s'.n) (hs : Step m s w m' s' w') (hrd : rdOf m' s' = rdOf m s)
    {v : V} {c : Value} (hv : RepV w' (Tot Mo s'.bx s'.ow m') m' v c) (h : k (s'.put o.dst v)) : K (a.put o.dst c) w' :=
  hK m' _ _ _ h (hR.put hd hv) (step_put hs) (by rw [rdOf_put]; exact hrd)

/-! ### Numbers -/
theorem inR_wrap (k : IntKind) (x : Int) : inR k (k.wrap x) = true := by
  cases k <;> simp only [inR, IntKind.wrap, IntKind.bits, IntKind.signed, decide_eq_true_eq] <;> (try split) <;> simp_all <;> omega
theorem okLeaf_int {k : IntKind} {x : Int} (h : inR k x = true) : okLeaf (.int k x) := h
theorem inR_fdiv {k : IntKind} {x : Int} (j : Nat) (h : inR k x = true) : inR k (x.fdiv (2 ^ j)) = true := by
  have hp : (0 : Int) < 2 ^ j := Int.pow_pos (by decide)
  have e : x.fdiv (2 ^ j) = x / 2 ^ j := Int.fdiv_eq_ediv_of_nonneg x (Int.le_of_lt hp)
  rw [e]
  have key : ∀ lo hi : Int, lo ≤ 0 → 0 ≤ hi → lo ≤ x ∧ x ≤ hi → lo ≤ x / 2 ^ j ∧ x / 2 ^ j ≤ hi := by
    intro lo hi h0 h1 ⟨h2, h3⟩
    constructor
    · rw [Int.le_ediv_iff_mul_le hp]
      have : lo * 2 ^ j ≤ lo * 1 := Int.mul_le_mul_of_nonpos_left h0 (by omega)
      omega
    · by_cases hx : 0 ≤ x
      · exact Int.le_trans (Int.ediv_le_self _ hx) h3
      · have : x / 2 ^ j < 0 := Int.ediv_neg_of_neg_of_pos (by omega) hp
        omega
  cases k <;> simp only [inR, decide_eq_true_eq] at h ⊢ <;> exact key _ _ (by decide) (by decide) h
theorem inR_tmod {k : IntKind} {x y : Int} (hy : y ≠ 0) (h : inR k x = true) : inR k (x.tmod y) = true := by
  have h1 : (x.tmod y).natAbs ≤ x.natAbs := by
    rw [Int.natAbs_tmod]; exact Nat.mod_le _ _
  have h2 : 0 ≤ x → 0 ≤ x.tmod y := fun h => Int.tmod_nonneg y h
  have h3 : x ≤ 0 → x.tmod y ≤ 0 := fun h => by
    have := Int.tmod_nonneg y (a := -x) (by omega)
    rw [Int.neg_tmod] at this; omega
  cases k <;> simp only [inR, decide_eq_true_eq] at h ⊢ <;> omega
theorem run_eqGuard {op : BinOp} {t : TypeId} {xo yo : Operand} {x y : Value} (h : (∃ k a, x = .int k a) ∨ (∃ b, x = .bool b) ∨ ∃ s, x = .string s) :
    (eqGuard op t xo yo x y).run P w = .ok () w := by
  unfold eqGuard
  rcases h with ⟨k, a, rfl⟩ | ⟨b, rfl⟩ | ⟨s, rfl⟩ <;> split <;> simp
theorem run_eqBool {d : Nat} {t : TypeId} {a b : Bool} (ht : P.underlying t = some .bool) : (Op.equalIn (d + 1) t (.bool a) (.bool b)).run P w = .ok (a == b) w := by
  simp only [Op.equalIn, Sem.run_bind, run_underlying ht, Result.andThen_ok]; rfl
theorem run_bin {op : BinOp} {t : TypeId} {xo yo : Operand} {x y : Value} {k : V → Prop} (h : binV P t op x y k) (hx : okLeaf x) (hy : okLeaf y) :
    ∃ v c, k v ∧ (do eqGuard op t xo yo x y; binOp op t x y : Sem Value).run P w = .ok c w ∧ ∀ M m, RepV w M m v c := by
  unfold binV at h
  split at h
  · rename_i p a q b
    have hg := run_eqGuard (P := P) (w := w) (op := op) (t := t) (xo := xo) (yo := yo) (x := .int p a) (y := .int q b) (.inl ⟨p, a, rfl⟩)
    simp only [Sem.run_bind, hg, Result.andThen_ok]
    cases op <;> simp only at h
    case shl => exact ⟨_, _, h.2, by simp [binOp, Op.shift, Int.not_lt.2 h.1], fun M m => .d (.v (inR_wrap _ _))⟩
    case shr => exact ⟨_, _, h.2, by simp [binOp, Op.shift, Int.not_lt.2 h.1], fun M m => .d (.v (inR_fdiv _ hx))⟩
    case quo => obtain ⟨rfl, h0, h⟩ := h; exact ⟨_, _, h, by simp [binOp, Op.intDiv, h0], fun M m => .d (.v (inR_wrap _ _))⟩
    case rem => obtain ⟨rfl, h0, h⟩ := h; exact ⟨_, _, h, by simp [binOp, Op.intDiv, h0], fun M m => .d (.v (inR_tmod h0 hx))⟩
    all_goals
      obtain ⟨rfl, h⟩ := h
      simp only [cmpInt, arith] at h
    case add => exact ⟨_, _, h, by simp [binOp, Op.intArith], fun M m => .d (.v (inR_wrap _ _))⟩
    case sub => exact ⟨_, _, h, by simp [binOp, Op.intArith], fun M m => .d (.v (inR_wrap _ _))⟩
    case mul => exact ⟨_, _, h, by simp [binOp, Op.intArith], fun M m => .d (.v (inR_wrap _ _))⟩
    case and => exact ⟨_, _, h, by simp only [binOp]; rw [if_neg (by simp)]; rfl, fun M m => .d (.v (inR_wrap _ _))⟩
    case or => exact ⟨_, _, h, by simp only [binOp]; rw [if_neg (by simp)]; rfl, fun M m => .d (.v (inR_wrap _ _))⟩
    case xor => exact ⟨_, _, h, by simp only [binOp]; rw [if_neg (by simp)]; rfl, fun M m => .d (.v (inR_wrap _ _))⟩
    case andNot => exact ⟨_, _, h, by simp only [binOp]; rw [if_neg (by simp)]; rfl, fun M m => .d (.v (inR_wrap _ _))⟩
    all_goals exact ⟨_, _, h, by simp [binOp, Op.intCmp], fun M m => .d (.v trivial)⟩
  · rename_i a b
    have hg := run_eqGuard (P := P) (w := w) (op := op) (t := t) (xo := xo) (yo := yo) (x := .bool a) (y := .bool b) (.inr (.inl ⟨a, rfl⟩))
    simp only [Sem.run_bind, hg, Result.andThen_ok]
    obtain ⟨ht, h⟩ := h
    have he : (Op.equal t (.bool a) (.bool b)).run P w = .ok (a == b) w := run_eqBool (d := 9999) ht
    cases op <;> simp only at h
    case eql => exact ⟨_, _, h, by simp [binOp, he], fun M m => .d (.v trivial)⟩
    case neq => exact ⟨_, _, h, by simp [binOp, he], fun M m => .d (.v trivial)⟩
  · rename_i a b
    have hg := run_eqGuard (P := P) (w := w) (op := op) (t := t) (xo := xo) (yo := yo) (x := .string a) (y := .string b) (.inr (.inr ⟨a, rfl⟩))
    simp only [Sem.run_bind, hg, Result.andThen_ok]
    cases op <;> simp only at h <;> exact ⟨_, _, h, by simp [binOp, Op.stringOp], fun M m => .d (.v trivial)⟩
  · exact h.elim

/-! ### Structs, arrays, nil -/
theorem kindB_run {t : TypeId} {b : Bool} (h : kindB P t = some b) {d : Nat} {x y : Value} :
    (∀ p q, b = true → x = .bool p → y = .bool q → (Op.equalIn (d + 1) t x y).run P w = .ok (p == q) w) ∧ (∀ k p q, b = false → x = .int k p → y = .int k q → (Op.equalIn (d + 1) t x y).run P w = .ok (p == q) w) := by
  unfold kindB at h
  split at h
  · rename_i hu
    cases h
    exact ⟨fun p q _ e1 e2 => by rw [e1, e2]; exact run_eqBool hu, fun k p q e => by cases e⟩
  · rename_i k hu
    cases h
    exact ⟨fun p q e => (by cases e), fun k p q _ e1 e2 => by rw [e1, e2]; exact run_equalIn_int w d t _ _ p q hu⟩
  · cases h
theorem run_partB {t : TypeId} {b : Bool} (h : kindB P t = some b) {cs : Array Value} {i : Nat} {v : Value} (hv : cs[i]? = some v) : (part t cs i).run P w = .ok v w := by
  have ha : tagg P t = some false := by
    unfold kindB at h
    unfold tagg
    split at h <;> simp_all
  simp only [part, Sem.run_bind, run_isAgg ha, Result.andThen_ok, hv]
  simp
theorem run_eqFs {d : Nat} {cs ds : Array Value} : ∀ (fs : List Field) (i : Nat) (ks : List Bool) (xs ys : List D) (r : Bool), kindsFs P i fs = some ks →
    (∀ j v, xs[j]? = some (.v v) → cs[i + j]? = some v) → (∀ j v, ys[j]? = some (.v v) → ds[i + j]? = some v) → eqDs ks xs ys = some r → (Op.eqFields (d + 1) cs ds fs).run P w = .ok r w := by
  intro fs
  induction fs with
  | nil => intro i ks xs ys r hk _ _ he; cases hk; simp only [eqDs, Option.some.injEq] at he; subst he; simp [Op.eqFields]
  | cons f fs ih =>
    intro i ks xs ys r hk hx hy he
    simp only [kindsFs] at hk
    split at hk
    · rename_i hn
      split at hk
      · rename_i b bs hb hbs
        cases hk
        unfold eqDs at he
        split at he
        · rename_i h; cases h
        · rename_i ks' a xs' b' ys' hc
          cases hc
          split at he
          · rename_i r' hr'
            cases he
            have h1 := hx 0 (.bool a) rfl
            have h2 := hy 0 (.bool b') rfl
            simp only [Nat.add_zero] at h1 h2
            have h3 := ih (i + 1) bs xs' ys' r' hbs (fun j v h => by rw [Nat.add_assoc, Nat.add_comm 1]; exact hx (j + 1) v h) (fun j v h => by rw [Nat.add_assoc, Nat.add_comm 1]; exact hy (j + 1) v h) hr'
            simp only [Op.eqFields, hn.1, hn.2, ne_eq, not_false_eq_true, if_true, Sem.run_bind, run_partB hb h1, run_partB hb h2, Result.andThen_ok, (kindB_run (w := w) hb).1 a b' rfl rfl rfl]
            cases a == b' <;> simp [h3]
          · cases he
        · rename_i ks' p a xs' q b' ys' hc
          cases hc
          split at he
          · rename_i hpq
            subst hpq
            split at he
            · rename_i r' hr'
              cases he
              have h1 := hx 0 (.int p a) rfl
              have h2 := hy 0 (.int p b') rfl
              simp only [Nat.add_zero] at h1 h2
              have h3 := ih (i + 1) bs xs' ys' r' hbs (fun j v h => by rw [Nat.add_assoc, Nat.add_comm 1]; exact hx (j + 1) v h) (fun j v h => by rw [Nat.add_assoc, Nat.add_comm 1]; exact hy (j + 1) v h) hr'
              simp only [Op.eqFields, hn.1, hn.2, ne_eq, not_false_eq_true, if_true, Sem.run_bind, run_partB hb h1, run_partB hb h2, Result.andThen_ok, (kindB_run (w := w) hb).2 p a b' rfl rfl rfl]
              cases a == b' <;> simp [h3]
            · cases he
          · cases he
        · cases he
      · cases hk
    · cases hk
theorem run_eqIs {d : Nat} {e : TypeId} {b : Bool} (hb : kindB P e = some b) {cs ds : Array Value} : ∀ (n i : Nat) (xs ys : List D) (r : Bool),
    (∀ j v, xs[j]? = some (.v v) → cs[i + j]? = some v) → (∀ j v, ys[j]? = some (.v v) → ds[i + j]? = some v) → eqDs (List.replicate n b) xs ys = some r → (Op.eqItems (d + 1) e 1 cs ds (List.range' i n)).run P w = .ok r w := by
  intro n
  induction n with
  | zero => intro i xs ys r _ _ he; simp only [List.replicate_zero, eqDs, Option.some.injEq] at he; subst he; simp [Op.eqItems]
  | succ n ih =>
    intro i xs ys r hx hy he
    rw [List.replicate_succ] at he
    unfold eqDs at he
    split at he
    · rename_i h; cases h
    · rename_i ks' a xs' b' ys' hc
      cases hc
      split at he
      · rename_i r' hr'
        cases he
        have h1 := hx 0 (.bool a) rfl
        have h2 := hy 0 (.bool b') rfl
        simp only [Nat.add_zero] at h1 h2
        have h3 := ih (i + 1) xs' ys' r' (fun j v h => by rw [Nat.add_assoc, Nat.add_comm 1]; exact hx (j + 1) v h) (fun j v h => by rw [Nat.add_assoc, Nat.add_comm 1]; exact hy (j + 1) v h) hr'
        simp only [List.range'_succ, Op.eqItems, Nat.mul_one, Sem.run_bind, run_partB hb h1, run_partB hb h2, Result.andThen_ok, (kindB_run (w := w) hb).1 a b' rfl rfl rfl]
        cases a == b' <;> simp [h3]
      · cases he
    · rename_i ks' p a xs' q b' ys' hc
      cases hc
      split at he
      · rename_i hpq
        subst hpq
        split at he
        · rename_i r' hr'
          cases he
          have h1 := hx 0 (.int p a) rfl
          have h2 := hy 0 (.int p b') rfl
          simp only [Nat.add_zero] at h1 h2
          have h3 := ih (i + 1) xs' ys' r' (fun j v h => by rw [Nat.add_assoc, Nat.add_comm 1]; exact hx (j + 1) v h) (fun j v h => by rw [Nat.add_assoc, Nat.add_comm 1]; exact hy (j + 1) v h) hr'
          simp only [List.range'_succ, Op.eqItems, Nat.mul_one, Sem.run_bind, run_partB hb h1, run_partB hb h2, Result.andThen_ok, (kindB_run (w := w) hb).2 p a b' rfl rfl rfl]
          cases a == b' <;> simp [h3]
        · cases he
      · cases he
    · cases he
theorem run_flatEq {t : TypeId} {ks : List Bool} {xs ys : List D} {r : Bool} (hk : flatKinds P t = some ks) (he : eqDs ks xs ys = some r) {cs ds : Array Value} (hx : ∀ (j : Nat) v, xs[j]? = some (.v v) → cs[j]? = some v) (hy : ∀ (j : Nat) v, ys[j]? = some (.v v) → ds[j]? = some v) {op : BinOp} {xo yo : Operand} :
    (op = .eql → (do eqGuard op t xo yo (.agg cs) (.agg ds); binOp op t (.agg cs) (.agg ds) : Sem Value).run P w = .ok (.bool r) w) ∧ (op = .neq → (do eqGuard op t xo yo (.agg cs) (.agg ds); binOp op t (.agg cs) (.agg ds) : Sem Value).run P w = .ok (.bool !r) w) := by
  unfold flatKinds at hk
  split at hk
  · cases hk
  · rename_i hg
    have hg' : P.eqGuardType P.depth t = false := by simpa using hg
    have hrun : (Op.equalIn 10000 t (.agg cs) (.agg ds)).run P w = .ok r w := by
      split at hk
      · rename_i fs hu
        split at hk
        · cases hk
        · rename_i hs
          have hf : P.fieldsOf t = fs := by simp [Program.fieldsOf, hu]
          rw [run_equalIn_struct w 9999 t cs ds (by rw [hf]; exact hu) (by simpa using hs), hf]
          exact run_eqFs fs.toList 0 ks xs ys r hk (fun j v h => by rw [Nat.zero_add]; exact hx j v h) (fun j v h => by rw [Nat.zero_add]; exact hy j v h) he
      · rename_i nn e hu
        split at hk
        · rename_i hsz
          simp only [Option.map_eq_some_iff] at hk
          obtain ⟨b, hb, rfl⟩ := hk
          have hi : ∃ i, P.info? e = some i := by
            unfold tsz at hsz
            cases hi : P.info? e with
            | none => simp [hi] at hsz
            | some i => exact ⟨i, rfl⟩
          obtain ⟨i, hi⟩ := hi
          have hc : P.cellsOf e = 1 := by rw [← hsz]; simp [Program.cellsOf, tsz, hi]
          rw [run_equalIn_array w 9999 cs ds hu hi, hc, List.range_eq_range']
          exact run_eqIs hb nn 0 xs ys r (fun j v h => by rw [Nat.zero_add]; exact hx j v h) (fun j v h => by rw [Nat.zero_add]; exact hy j v h) he
        · cases hk
      · cases hk
    refine ⟨fun e => ?_, fun e => ?_⟩ <;> subst e <;> simp only [Sem.run_bind, run_eqGuard_agg w _ t xo yo cs ds hg', Result.andThen_ok]
    · rw [run_eql_struct, hrun]; rfl
    · rw [run_neq_struct, hrun]; rfl
theorem run_eqNil {t e : TypeId} (hu : P.underlying t = some (.slice e)) {a : Option Addr} {l c : Nat} {op : BinOp} {xo yo : Operand} :
    (op = .eql → (do eqGuard op t xo yo (.slice a l c) (.slice none 0 0); binOp op t (.slice a l c) (.slice none 0 0) : Sem Value).run P w = .ok (.bool a.isNone) w) ∧
    (op = .neq → (do eqGuard op t xo yo (.slice a l c) (.slice none 0 0); binOp op t (.slice a l c) (.slice none 0 0) : Sem Value).run P w = .ok (.bool !a.isNone) w) := by
  have hg : ∀ op, (eqGuard op t xo yo (.slice a l c) (.slice none 0 0)).run P w = .ok () w := fun op => by cases op <;> simp [eqGuard]
  refine ⟨fun e' => ?_, fun e' => ?_⟩ <;> subst e' <;> simp only [Sem.run_bind, hg, Result.andThen_ok]
  · simp only [binOp]; simp [run_equal_slice_nil w t e a l c hu]
  · exact run_neq_slice_nil w t e a l c hu
end Go.Ab
