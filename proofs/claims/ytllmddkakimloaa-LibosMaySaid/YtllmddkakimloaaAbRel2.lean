import Derived.Test.YtllmddkakimloaaAbRel
/-! The relation between an abstract state and a world; what steps keep it. -/
namespace Go.Ab
set_option linter.all false
open Go Go.RowKit

/-! ### Lists with names -/
theorem lkT_setT (t t' : Nat) (x : V) (l : List (Nat × V)) : lkT t' (setT t x l) = if t' = t then x else lkT t' l := by
  induction l with
  | nil =>
    by_cases h : t' = t
    · simp [setT, lkT, h]
    · simp [setT, lkT, h, Ne.symm h]
  | cons y l ih =>
    obtain ⟨s, v⟩ := y
    by_cases h : s = t
    · subst h
      by_cases h2 : t' = s
      · subst h2; simp [setT, lkT]
      · simp [setT, lkT, h2, Ne.symm h2]
    · by_cases h2 : t' = t
      · subst h2; simp [setT, lkT, h, ih]
      · simp [setT, lkT, h, ih, h2]
theorem look_mapT (f : V → V) (hf : f .dead = .dead) (t : Nat) (l : List (Nat × V)) : lkT t (mapT f l) = f (lkT t l) := by
  induction l with
  | nil => simp [mapT, lkT, hf]
  | cons y l ih =>
    obtain ⟨s, v⟩ := y
    simp only [mapT, List.map_cons, lkT] at ih ⊢
    split
    · rfl
    · exact ih
theorem lookN_setN {α : Type} (n n' : Name) (x : α) (l : List (Name × α)) : lookN n' (setN n x l) = if n' = n then (lookN n l).map (fun _ => x) else lookN n' l := by
  induction l with
  | nil => simp [setN, lookN]
  | cons y l ih =>
    obtain ⟨s, v⟩ := y
    by_cases h : s = n
    · subst h
      by_cases h2 : n' = s
      · subst h2; simp [setN, lookN]
      · simp [setN, lookN, h2, Ne.symm h2]
    · by_cases h2 : n' = n
      · subst h2; simp [setN, lookN, h, ih]
      · simp [setN, lookN, h, ih, h2]
theorem lookN_map {α : Type} (f : α → α) (n : Name) (l : List (Name × α)) : lookN n (l.map fun x => (x.1, f x.2)) = (lookN n l).map f := by
  induction l with
  | nil => simp [lookN]
  | cons y l ih =>
    obtain ⟨s, v⟩ := y
    simp only [List.map_cons, lookN]
    split <;> simp_all

/-! ### The relation -/
abbrev TsOK (w : World) (M : Cells) (m : Mp) (ts : List (Nat × V)) (tmps : Array Value) : Prop := ∀ t, RepV w M m (lkT t ts) (tmps.getD t undef)

def markOf (d : Deferred) : Option Nat := match d.target with | .collected r => if d.args = #[] then some r else none | _ => none
structure FrOK (w : World) (M : Cells) (m : Mp) (f : Fr) (a : Act) : Prop where
  size : a.tmps.size = f.n
  ts : TsOK w M m f.ts a.tmps
  def_ : ∀ d ∈ a.defers, ∃ r, d = { target := .collected r, args := #[] } ∧ w.heap[r]? = some (.deferred (some []))

structure BoxOK (w : World) (M : Cells) (m : Mp) (n : Name) (c : V) (cs : Array Value) (T : TypeId) : Prop where
  heap : w.heap[m.bx n]? = some (.cells cs T (0, 0))
  size : cs.size = c.cells.length
  leafs : ∀ i, i < c.cells.length → leaf (cs.getD i undef) = true
  rep : ∀ i (hi : i < c.cells.length), RepV w M m c.cells[i] (cs.getD i undef)

/-- State of a loop over a function. -/
structure LpOK (w : World) (m : Mp) (l : Name) (p : Lp) (as : List Act) (r : Loop) (a : Act) : Prop where
  heap : w.heap[m.lp l]? = some (.loop r)
  ps : r.params = p.ps
  assign : r.assign = p.assign
  body : r.body = p.body
  own : as.reverse[p.depth]? = some a
  tmps : r.tmps = a.tmps
  stat : match p.pending with
    | none => r.state = .ready ∧ r.pending = none
    | some (some j) => r.state = .done ∧ r.pending = some j
    | some none => r.state = .busy

def nonempty (x : Nat × Nat × Nat) : Prop := x.2.1 < x.2.2
def Mut (bx : List (Name × V)) (ow : List Name) (m : Mp) : Cells := fun b o =>
  (∃ n c, lookN n bx = some c ∧ b = m.bx n) ∨ (∃ i ∈ ow, (m.ow i).1 = b ∧ (m.ow i).2.1 ≤ o ∧ o < (m.ow i).2.2)
abbrev Tot (Mo : Cells) (bx : List (Name × V)) (ow : List Name) (m : Mp) : Cells := fun b o => Mo b o ∨ Mut bx ow m b o

def marks (as : List Act) : List Deferred := as.flatMap (·.defers)

structure Rel (Mo : Cells) (m : Mp) (s : Sa) (as : List Act) (w : World) : Prop where
  len : as.length = s.sv.length + 1
  fr : ∀ i (hi : i < (({ rd := s.rd, n := s.n, ts := s.ts } : Fr) :: s.sv).length) (h : i < as.length),
      FrOK w (Tot Mo s.bx s.ow m) m (({ rd := s.rd, n := s.n, ts := s.ts } : Fr) :: s.sv)[i] as[i]
  box : ∀ n c, lookN n s.bx = some c → ∃ cs T, BoxOK w (Tot Mo s.bx s.ow m) m n c cs T
  inj : ∀ n c n' c', lookN n s.bx = some c → lookN n' s.bx = some c' → m.bx n = m.bx n' → n = n'
  oww : ∀ i ∈ s.ow, nonempty (m.ow i) → ∃ c T, w.heap[(m.ow i).1]? = some (.cells c T (0, 0)) ∧ (m.ow i).2.2 ≤ c.size
  owx : ∀ i ∈ s.ow, ∀ j ∈ s.ow, nonempty (m.ow i) → nonempty (m.ow j) → (m.ow i).1 = (m.ow j).1 → i = j
  owb : ∀ i ∈ s.ow, nonempty (m.ow i) → ∀ n c, lookN n s.bx = some c → (m.ow i).1 ≠ m.bx n
  lps : ∀ l p, lookN l s.lp = some p → ∃ r a, LpOK w m l p as r a
  dep : ∀ l p, lookN l s.lp = some p → p.depth + 1 < as.length
  lpi : ∀ l p l' p', lookN l s.lp = some p → lookN l' s.lp = some p' → m.lp l = m.lp l' → l = l'
  mo : ∀ b o, Mo b o → b < w.heap.size
  mks : (marks as).Nodup
  owm : ∀ i ∈ s.ow, nonempty (m.ow i) → ∀ o, ¬ Mo (m.ow i).1 o

theorem Rel.cur {Mo m s a sv w} (h : Rel Mo m s (a :: sv) w) : FrOK w (Tot Mo s.bx s.ow m) m { rd := s.rd, n := s.n, ts := s.ts } a := h.fr 0 (by simp) (by simp)
theorem Rel.get {Mo m s a sv w} (h : Rel Mo m s (a :: sv) w) (t : Nat) : RepV w (Tot Mo s.bx s.ow m) m (lkT t s.ts) (a.tmps.getD t undef) := h.cur.ts t

theorem okLeaf_scalar {v : Value} (h : scalar v = true) : okLeaf v := by
  cases v <;> simp_all [scalar, okLeaf]
  rename_i fn a b
  cases fn <;> simp_all [scalar]
theorem repD_const {w M} {v : Value} (h : scalar v = true ∨ v = .slice none 0 0) : RepD w M (constD v) v := by
  rcases h with h | rfl
  · have : constD v = .v v := by
      cases v <;> simp_all [constD, scalar]
    rw [this]; exact .v (okLeaf_scalar h)
  · exact RepD.sl (xs := []) (a := none) (cap := 0) 0 0 0 (fun _ _ => undef) (by simp) (by simp) (by simp) (by simp) (by simp) (by simp)
theorem repV_const {w M m} (v : Value) : RepV w M m (constV v) v := by
  unfold constV
  split
  · exact .nil
  · rename_i cs
    split
    · rename_i h
      have hx : ∀ i (hi : i < cs.size), scalar cs[i] = true ∨ cs[i] = .slice none 0 0 := by
        intro i hi
        have hm := (Array.all_eq_true.1 h) i hi
        simp only [Bool.or_eq_true] at hm
        rcases hm with hm | hm
        · exact .inl hm
        · right
          revert hm
          split <;> simp_all
      refine .d (.agg (by simp) (fun i hi => ?_) (fun i hi => ?_))
      · simp only [List.length_map, Array.length_toList] at hi
        rw [Array.getD_eq_getD_getElem?, Array.getElem?_eq_getElem hi, Option.getD_some]
        rcases hx i hi with e | e
        · revert e; cases cs[i] <;> simp [scalar, leaf]
        · rw [e]; rfl
      simp only [List.length_map, Array.length_toList] at hi
      simp only [List.getElem_map, Array.getElem_toList]
      rw [Array.getD_eq_getD_getElem?, Array.getElem?_eq_getElem hi, Option.getD_some]
      exact repD_const (hx i hi)
    · exact .dead
  · split
    · rename_i h; exact .d (.v (okLeaf_scalar h))
    · exact .dead
theorem Rel.operand {Mo m s a sv w} (h : Rel Mo m s (a :: sv) w) (x : Operand) : RepV w (Tot Mo s.bx s.ow m) m (s.get x) (a.eval x) := by
  cases x with
  | tmp t => exact h.get t
  | const v => exact repV_const v
  | global g => exact .dead
  | func f => exact .d (.v (by simp [okLeaf]))

/-! ### Putting a value into a slot -/
theorem FrOK.put {w M m f a} (h : FrOK w M m f a) {d : Nat} {v : V} {c : Value} (hd : d < f.n) (hv : RepV w M m v c) :
    FrOK w M m { f with ts := setT d v f.ts } (a.put (some d) c) := by
  refine ⟨by simp [Act.put, h.size], fun t => ?_, h.def_⟩
  rw [lkT_setT]
  simp only [Act.put]
  by_cases e : t = d
  · subst e
    have : t < a.tmps.size := by rw [h.size]; exact hd
    simp [Array.getD_eq_getD_getElem?, Array.getElem?_setIfInBounds_self_of_lt this]; exact hv
  · have := h.ts t
    simp only [e, if_false]
    rw [Array.getD_eq_getD_getElem?] at this ⊢
    rw [Array.getElem?_setIfInBounds_ne (Ne.symm e)]; exact this
theorem marks_put {a : Act} {d : Option Tmp} {c : Value} {sv : List Act} : marks (a.put d c :: sv) = marks (a :: sv) := by
  cases d <;> simp [marks, Act.put]
theorem Rel.put {Mo m s a sv w} (h : Rel Mo m s (a :: sv) w) {dst : Option Tmp} {v : V} {c : Value} (hd : ∀ d, dst = some d → d < s.n) (hv : RepV w (Tot Mo s.bx s.ow m) m v c) :
    Rel Mo m (s.put dst v) (a.put dst c :: sv) w := by
  cases dst with
  | none => exact h
  | some d =>
    refine ⟨h.len, ?_, h.box, h.inj, h.oww, h.owx, h.owb, ?_, h.dep, h.lpi, h.mo, ?_, h.owm⟩
    · intro i hi hi'
      cases i with
      | zero => exact h.cur.put (hd d rfl) hv
      | succ i => exact h.fr (i + 1) hi hi'
    · intro l p hl
      obtain ⟨r, b, hr⟩ := h.lps l p hl
      refine ⟨r, b, ⟨hr.heap, hr.ps, hr.assign, hr.body, ?_, hr.tmps, hr.stat⟩⟩
      have hlt := h.dep l p hl
      have := hr.own
      simp only [List.reverse_cons] at this ⊢
      rw [List.getElem?_append_left (by simpa using hlt)] at this ⊢
      exact this
    · rw [marks_put]; exact h.mks

/-! ### The world grows, nothing that was there turns -/
theorem stab_below {w w' : World} (M : Cells) (hb : Below w.heap.size w w') : Stab w M w' M := fun b o c hc hm => by
  refine ⟨?_, hm⟩
  rw [hb.cell (p := ⟨b, o, none⟩) (World.block_lt_of_cell? w _ hc)]; exact hc
theorem heap_below {w w' : World} (hb : Below w.heap.size w w') {b : Nat} {o : Obj} (h : w.heap[b]? = some o) : w'.heap[b]? = some o := by
  rw [hb.block b (Array.getElem?_eq_some_iff.1 h).1]; exact h
theorem spare_heap {w w' : World} {m m' : Mp} {i : Name} {sz : Nat} {v : Value} (h : Spare w m i sz v) (ho : m'.ow i = m.ow i)
    (hh : ∀ (b : Nat) (o : Obj), w.heap[b]? = some o → w'.heap[b]? = some o) : Spare w' m' i sz v := by
  unfold Spare at h ⊢
  split at h
  · rw [ho]; exact h
  · rw [ho]; obtain ⟨h1, h2, h3, c, T, h4, h5⟩ := h; exact ⟨h1, h2, h3, c, T, hh _ _ h4, h5⟩
  · exact h.elim
theorem RepV.grow {w M m w' x v} (hb : Below w.heap.size w w') (h : RepV w M m x v) : RepV w' M m x v :=
  h.mono (stab_below M hb) (fun _ _ => rfl) (fun _ _ _ _ hs => spare_heap hs rfl (fun _ _ => heap_below hb)) (fun _ _ => rfl)
theorem FrOK.below {w M m f a w'} (hb : Below w.heap.size w w') (h : FrOK w M m f a) : FrOK w' M m f a :=
  ⟨h.size, fun t => (h.ts t).grow hb, fun d hd => let ⟨r, e, hr⟩ := h.def_ d hd; ⟨r, e, heap_below hb hr⟩⟩
theorem BoxOK.below {w M m n c cs T w'} (hb : Below w.heap.size w w') (h : BoxOK w M m n c cs T) : BoxOK w' M m n c cs T :=
  ⟨heap_below hb h.heap, h.size, h.leafs, fun i hi => (h.rep i hi).grow hb⟩
theorem LpOK.below {w m l p as r a w'} (hb : Below w.heap.size w w') (h : LpOK w m l p as r a) : LpOK w' m l p as r a :=
  ⟨heap_below hb h.heap, h.ps, h.assign, h.body, h.own, h.tmps, h.stat⟩
theorem Rel.below {Mo m s as w w'} (h : Rel Mo m s as w) (hb : Below w.heap.size w w') : Rel Mo m s as w' := by
  refine ⟨h.len, fun i hi hi' => (h.fr i hi hi').below hb, ?_, h.inj, ?_, h.owx, h.owb, ?_, h.dep, h.lpi, ?_, h.mks, h.owm⟩
  · intro n c hn; obtain ⟨cs, T, hx⟩ := h.box n c hn; exact ⟨cs, T, hx.below hb⟩
  · intro i hi hn; obtain ⟨c, T, h1, h2⟩ := h.oww i hi hn; exact ⟨c, T, heap_below hb h1, h2⟩
  · intro l p hl; obtain ⟨r, a, hr⟩ := h.lps l p hl; exact ⟨r, a, hr.below hb⟩
  · intro b o hm; exact Nat.lt_of_lt_of_le (h.mo b o hm) hb.size

/-! ### What a step may turn -/
structure Keeps (w w' : World) (C : Cells) (L : Nat → Prop) : Prop where
  os : w'.os = w.os
  tape : w'.tape = w.tape
  output : w'.output = w.output
  size : w.heap.size ≤ w'.heap.size
  blk : ∀ b, b < w.heap.size → (∀ o, ¬ C b o) → ¬ L b → w'.heap[b]? = w.heap[b]?
  cel : ∀ b c T f, w.heap[b]? = some (.cells c T f) → ¬ L b → ∃ c', w'.heap[b]? = some (.cells c' T f) ∧ c'.size = c.size ∧ ∀ o, ¬ C b o → c'[o]? = c[o]?
def LpB (lp : List (Name × Lp)) (m : Mp) : Nat → Prop := fun b => ∃ l p, lookN l lp = some p ∧ b = m.lp l
def rds (s : Sa) : List (Option Name) := s.rd :: s.sv.map (·.rd)
structure Step (m : Mp) (s : Sa) (w : World) (m' : Mp) (s' : Sa) (w' : World) : Prop where
  keeps : Keeps w w' (Mut s.bx s.ow m) (LpB s.lp m)
  mt : ∀ b o, b < w.heap.size → Mut s'.bx s'.ow m' b o → Mut s.bx s.ow m b o
  lp : ∀ b, b < w.heap.size → LpB s'.lp m' b → LpB s.lp m b
  rd : s'.rd = s.rd
  svrd : s'.sv.map (·.rd) = s.sv.map (·.rd)
  lpm : ∀ l, some l ∈ rds s → m'.lp l = m.lp l
theorem Keeps.of_below {w w' C L} (h : Below w.heap.size w w') : Keeps w w' C L :=
  ⟨h.os, h.tape, h.output, h.size, fun b hb _ _ => h.block b hb, fun b c T f hc _ => ⟨c, heap_below h hc, rfl, fun _ _ => rfl⟩⟩
theorem Step.refl (m s w) : Step m s w m s w := ⟨.of_below (Below.refl _ _), fun _ _ _ h => h, fun _ _ h => h, rfl, rfl, fun _ _ => rfl⟩
theorem Step.of_below {m s w w'} (h : Below w.heap.size w w') : Step m s w m s w' := ⟨.of_below h, fun _ _ _ h => h, fun _ _ h => h, rfl, rfl, fun _ _ => rfl⟩
theorem Step.trans {m s w m' s' w' m'' s'' w''} (h : Step m s w m' s' w') (k : Step m' s' w' m'' s'' w'') : Step m s w m'' s'' w'' := by
  refine ⟨⟨k.keeps.os.trans h.keeps.os, k.keeps.tape.trans h.keeps.tape, k.keeps.output.trans h.keeps.output, Nat.le_trans h.keeps.size k.keeps.size, ?_, ?_⟩, ?_, ?_, k.rd.trans h.rd, k.svrd.trans h.svrd, fun l hl => (k.lpm l (by unfold rds; rw [h.rd, h.svrd]; exact hl)).trans (h.lpm l hl)⟩
  · intro b hb hC hL
    rw [k.keeps.blk b (Nat.lt_of_lt_of_le hb h.keeps.size) (fun o ho => hC o (h.mt b o hb ho)) (fun ho => hL (h.lp b hb ho)), h.keeps.blk b hb hC hL]
  · intro b c T f hc hL
    have hb := (Array.getElem?_eq_some_iff.1 hc).1
    obtain ⟨c1, h1, h2, h3⟩ := h.keeps.cel b c T f hc hL
    obtain ⟨c2, k1, k2, k3⟩ := k.keeps.cel b c1 T f h1 (fun ho => hL (h.lp b hb ho))
    exact ⟨c2, k1, k2.trans h2, fun o ho => (k3 o (fun ho' => ho (h.mt b o hb ho'))).trans (h3 o ho)⟩
  · exact fun b o hb ho => h.mt b o hb (k.mt b o (Nat.lt_of_lt_of_le hb h.keeps.size) ho)
  · exact fun b hb ho => h.lp b hb (k.lp b (Nat.lt_of_lt_of_le hb h.keeps.size) ho)
end Go.Ab
